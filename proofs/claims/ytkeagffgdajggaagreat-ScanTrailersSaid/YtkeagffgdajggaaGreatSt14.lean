/- A part. -/
import Derived.Laws.RangeAny
import Derived.LoopTactic
import Derived.Lib.Bytealg
import Derived.Laws.Externs
import Derived.Lib.Walk
import Derived.Test.YtkeagffgdajggaaGreatSt12
import Derived.Lib.BytesEntry
import Derived.Lib.UnsafeStr
set_option linter.unusedSimpArgs false
set_option linter.unusedVariables false
section
namespace Go.AB
open Go
def fa(d o x:Nat):ai:=⟨some d,.fieldAddr o (.t x),none⟩
def ld(d n x:Nat):ai:=⟨some d,.load n false (.t x),none⟩
def lm(d n x:Nat):ai:=⟨some d,.load n true (.t x),none⟩
def cY(d:Nat)(a:AV):ai:=⟨some d,.iJ false (.c a),none⟩
def mi(d:Nat)(n:Int):ai:=⟨some d,.iJ false (.c (.int .i64 n)),none⟩
def c1(d f x:Nat):ai:=⟨some d,.call f [.t x],none⟩
def c2(d f x y:Nat):ai:=⟨some d,.call f [.t x,.t y],none⟩
def c3(d f x y z:Nat):ai:=⟨some d,.call f [.t x,.t y,.t z],none⟩
def ex(d x k:Nat):ai:=⟨some d,.extract (.t x) k,none⟩
def st(n p v:Nat):ai:=⟨none,.store n (.t p) (.t v),none⟩
def bn(d:Nat)(o:BinOp)(x:Nat)(n:Int):ai:=⟨some d,.bin o (.t x) (.c (.int .i64 n)),none⟩
def bu(d:Nat)(o:BinOp)(x:Nat)(n:Int):ai:=⟨some d,.bin o (.t x) (.c (.int .u8 n)),none⟩
def bt(d:Nat)(o:BinOp)(x y:Nat):ai:=⟨some d,.bin o (.t x) (.t y),none⟩
def nc(d x:Nat):ai:=⟨some d,.nilCheck (.t x),none⟩
def le(d k x:Nat):ai:=⟨some d,.len k (.t x),none⟩
def no(d x:Nat):ai:=⟨some d,.un .not (.t x),none⟩
def pf(d x y:Nat):ai:=⟨some d,.pick (.t x) (.t y) (.c (.bool false)),none⟩
def po(d x y:Nat):ai:=⟨some d,.pick (.t x) (.c (.bool true)) (.t y),none⟩
def fg(d t:Nat)(w:Bool)(o x:Nat):ai:=⟨some d,.fieldAddr o (.t x),some (t,w)⟩
def lg(d t:Nat)(w:Bool)(n x:Nat):ai:=⟨some d,.load n false (.t x),some (t,w)⟩
def ia(d:Nat)(z:List AV)(x y:Nat):ai:=⟨some d,.indexAddr z (.t x) (.t y),none⟩
def dD:List AV:=[.int .i64 0,.int .i64 0,.str [],.sl true 4 0 []]
def CS:List AV:=[.int .i64 0,.int .i64 0,.str [],.sl false 4 0 []]
def qzo:List AV:=[.int .i64 0,.int .i64 0,.str [],.sl true 4 0 [],.bool false,.str []]
def qzg:List AV:=[.int .i64 0,.int .i64 0,.str [],.sl false 4 0 [],.bool false,.str []]
def jK:List AV:=[.int .i64 0,.int .i64 0,.int .i64 0,.int .i64 0,.int .i64 0,.str [],.sl true 4 0 [],.str []]
def qzl:List AV:=[.int .i64 0,.sl true 1 0 [],.int .i64 0,.int .i64 0,.str [],.sl true 4 0 []]
def vm:List AV:=[.int .i64 0]
def jJ(d x:Nat):ai:=⟨some d,.qP (.t x),none⟩
def YJ(d n x y:Nat):ai:=⟨some d,.slice n (.t x) (some (.t y)) none none,none⟩
def WW(d n x y:Nat):ai:=⟨some d,.slice n (.t x) none (some (.t y)) none,none⟩
def JA(d n m x y:Nat):ai:=⟨some d,.append n m (.t x) (.t y),none⟩
def Ld(d f x y z w:Nat):ai:=⟨some d,.call f [.t x,.t y,.t z,.t w],none⟩
def qpk(d x y z:Nat):ai:=⟨some d,.pick (.t x) (.t y) (.t z),none⟩
def sm(d t:Nat)(w:Bool)(o:BinOp)(x y:Nat):ai:=⟨some d,.bin o (.t x) (.t y),some (t,w)⟩
def im(d t:Nat)(w:Bool)(o:BinOp)(x:Nat)(n:Int):ai:=⟨some d,.bin o (.t x) (.c (.int .i64 n)),some (t,w)⟩
def Fm(d t:Nat)(w:Bool)(f x:Nat):ai:=⟨some d,.call f [.t x],some (t,w)⟩
def qd2(d t:Nat)(w:Bool)(f x y:Nat):ai:=⟨some d,.call f [.t x,.t y],some (t,w)⟩
def ag(l:List ai)(v:List Nat)(k:IC):IC:=.seq (.bP none l v) k
attribute[go_sem] dD CS qzo qzg jK qzl vm jJ YJ WW JA Ld qpk sm im Fm qd2 ag fa ld lm cY mi c1 c2 c3 ex st bn bu bt nc le no pf po fg lg ia
@[go_sem]abbrev sF{α:Type}[aR α](n:Nat)(l:List α):AV:=.sl false n l.length (flat l)
@[go_sem]abbrev sT{α:Type}[aR α](n:Nat)(l:List α):AV:=.sl true n l.length (flat l)
theorem EX{S O:Type}{body:S->Option (S⊕O)}(I:S->Prop)(μ:S->Nat)(J1:O->Prop)
 (step:∀s,I s->∃x,body s=some x/\(match x with|.inl t=>I t/\μ t<μ s|.inr o=>J1 o)):∀(n:Nat)(s:S),I s->μ s<n->∃o,bU body n s=some o/\J1 o
 |0,_,_,h=>absurd h (Nat.not_lt_zero _)
 |n+1,s,hi,hn=>by
  obtain⟨x,hx,h⟩:=step s hi
  cases x with
  |inl t=>
   obtain⟨o,h1,h2⟩:=EX I μ J1 step n t h.1 (by have:=h.2;omega)
   exact⟨o,by unfold bU;rw[hx];exact h1,h2⟩
  |inr o=>exact⟨o,by unfold bU;rw[hx],h⟩
theorem dn{S O:Type}{body:S->Option (S⊕O)}{s0:S}(I:S->Prop)(μ:S->Nat)(J1:O->Prop)(h0:I s0)(hμ:μ s0<18446744073709551616)
 (step:∀s,I s->∃x,body s=some x/\(match x with|.inl t=>I t/\μ t<μ s|.inr o=>J1 o)):∃o,iter body s0=some o/\J1 o:=
 EX I μ J1 step _ s0 h0 hμ
theorem iter_eq{S O:Type}{body:S->Option (S⊕O)}{s0:S}{o:O}(I:S->Prop)(μ:S->Nat)(h0:I s0)(hμ:μ s0<18446744073709551616)
 (step:∀s,I s->(∃t,body s=some (.inl t)/\I t/\μ t<μ s)\/body s=some (.inr o)):iter body s0=some o:=by
 obtain⟨p,h1,h2⟩:=dn I μ (fun p=>p=o) h0 hμ fun s hs=>by
  rcases step s hs with⟨t,h1,h2⟩|h1
  ·exact⟨_,h1,h2⟩
  ·exact⟨_,h1,rfl⟩
 rw[h1,h2]
theorem au{n:Int}(h1:-9223372036854775808<=n)(h2:n<=9223372036854775807):ao n=n:=by
 unfold ao IntKind.wrap
 have:(2^IntKind.i64.bits:Int)=18446744073709551616:=by decide
 have h3:(2^(IntKind.i64.bits -1):Int)=9223372036854775808:=by decide
 rw[this,h3]
 simp only[IntKind.signed,Bool.true_and,decide_eq_true_eq]
 split<;>omega
@[simp]theorem bC{α β:Type}(a:α)(f:α->Option β):ba (some a) f=f a:=rfl
@[simp]theorem Y7{α β:Type}(f:α->Option β):ba none f=none:=rfl
@[simp]theorem acu{α β:Type}(a:α)(f:α->Option β):jn (some a) f=f a:=rfl
@[simp]theorem acs{α β:Type}(f:α->Option β):jn none f=none:=rfl
@[simp]theorem adh{X Y α:Type}(x:X)(F:X->Option α)(G:Y->Option α):kU (some (.inl x)) F G=F x:=rfl
@[simp]theorem adi{X Y α:Type}(y:Y)(F:X->Option α)(G:Y->Option α):kU (some (.inr y)) F G=G y:=rfl
@[simp]theorem aeR{X Y α:Type}(x:X)(F:X->Option α)(G:Y->Option α):oU (some (.inl x)) F G=F x:=rfl
@[simp]theorem aeS{X Y α:Type}(y:Y)(F:X->Option α)(G:Y->Option α):oU (some (.inr y)) F G=G y:=rfl
@[simp]theorem aeT{α:Type}(o:Option α):jn o (fun a=>some a)=o:=by cases o<;>rfl
@[simp]theorem adj{α:Type}(o:Option α):ba o (fun a=>some a)=o:=by cases o<;>rfl
theorem c9{α:Type}{c:Prop}[Decidable c](h:c)(o:Option α):aH c o=o:=if_pos h
@[simp]theorem Fa{α:Type}[Decidable True](o:Option α):aH True o=o:=if_pos trivial
@[simp]theorem kS{α:Type}(z:α)(o:Option α):dQ true z o=o:=rfl
@[simp]theorem Be{α:Type}(z:α)(o:Option α):dQ false z o=some z:=rfl
@[simp]theorem Zd{A B C:Type}(f:A->C)(g:B->C)(a:A):jy f g (.inl a)=f a:=rfl
@[simp]theorem Ze{A B C:Type}(f:A->C)(g:B->C)(b:B):jy f g (.inr b)=g b:=rfl
theorem T4{α:Type}[aR α]{l:List α}{i:Int}(h:i.toNat<l.length):ix l i=l[i.toNat]:=by unfold ix;rw[List.getD_eq_getElem?_getD,List.getElem?_eq_getElem h];rfl
theorem jZ{α:Type}[aR α]{l:List α}{k:Nat}(h:k<l.length):ix l (k:Int)=l[k]:=by rw[T4 (by simpa using h)];simp
theorem VS{α:Type}[aR α]{l:List α}{k:Nat}{a:α}(h:l[k]? =some a):ix l (k:Int)=a:=by unfold ix;rw[List.getD_eq_getElem?_getD];simp[h]
set_option maxRecDepth 4000
open Go.Proofs.Tryz (prog)
open Go.RowKit
theorem Dk{w:World}{R:Nat->Nat}{a b:AV}{vs:Array Value}(h:nq w R [a,b] vs):∃v0 v1,vs= #[v0,v1]/\VR w R a v0/\VR w R b v1:=by
 obtain⟨hl,hr⟩:=h
 obtain⟨l⟩:=vs
 match l,hl with
 |[v0,v1],_=>exact⟨v0,v1,rfl,hr 0 _ _ rfl rfl,hr 1 _ _ rfl rfl⟩
 |[],hl=>simp at hl
 |[_],hl=>simp at hl
 |_::_::_::_,hl=>simp at hl
theorem JS{w:World}{R:Nat->Nat}{a:AV}{vs:Array Value}(h:nq w R [a] vs):∃v0,vs= #[v0]/\VR w R a v0:=by
 obtain⟨hl,hr⟩:=h
 obtain⟨l⟩:=vs
 match l,hl with
 |[v0],_=>exact⟨v0,rfl,hr 0 _ _ rfl rfl⟩
 |[],hl=>simp at hl
 |_::_::_,hl=>simp at hl
theorem z7(a:ByteArray)(c:Int)(w:World):Calls prog 178 #[.string a,.int .u8 c] w fun e w'=>e=.returned (.int .i64 (Lib.indexByte a.data.toList c.toNat.toUInt8))/\w'=w:=by
 have mixed:=mix
 have t3:prog.underlying 3=some (.int .i64):=by kernel_rfl
 have u3:=run_underlying t3
 go_enter Go.Proofs.Tryz.func178,(show Go.Proofs.Tryz.f178.ntmps=8 from rfl)
 go_wp2
 rw[run_callFunc_extern Go.Proofs.Tryz.func214 (by kernel_rfl) (by kernel_rfl) (by kernel_rfl) (e:=Extern.BytealgIndexByte.indexByte) (by kernel_rfl),Lib.run_indexByteString]
 simp only[Result.andThen]
 rw[Oper.upon_value]
 go_wp2
 go_ret
 exact⟨rfl,rfl⟩
def dE(s:aC)(c:UInt8):Option Int:=some (Lib.indexByte s.b c)
theorem oi{a:aC}{c:UInt8}{s:ab}{Q:List AV->ab->Prop}(h:ok (dE a c) fun r=>Q [.int .i64 r] s):FN prog 178 [.str a.b,.int .u8 c.toNat] s Q:=by
 unfold dE at h
 rw[aP]at h
 intro G w vs h1 h2 h3 h4
 obtain⟨v0,v1,rfl,k0,k1⟩:=Dk h4
 rw[VR.eV k0,VR.bT k1]
 refine(z7 _ _ w).mono fun e w'⟨he,hw⟩=>?_
 subst hw
 refine⟨_,_,s,G,he,h,h1,h3,⟨?_,trivial⟩,az.refl G w'⟩
 have e:((c.toNat:Int).toNat).toUInt8=c:=by simp
 rw[e]
 exact .int _ _
theorem og{a:aC}{c:UInt8}{s:ab}{r:Int}(h:dE a c=some r):FE prog 178 [.str a.b,.int .u8 c.toNat] s [.int .i64 r] s:=oi ⟨r,h,rfl,rfl⟩
theorem Gq(a:ByteArray)(c:UInt8)(w:World):Calls prog 351 #[.string a,.string ⟨#[c]⟩] w fun e w'=>e=.returned (.int .i64 (Lib.indexByte a.data.toList c))/\w'=w:=by
 have mixed:=mix
 have t3:prog.underlying 3=some (.int .i64):=by kernel_rfl
 have u3:=run_underlying t3
 have t9:prog.underlying 9=some .string:=by kernel_rfl
 have u9:=run_underlying t9
 go_enter Go.Proofs.Tryz.func351,(show Go.Proofs.Tryz.f351.ntmps=143 from rfl)
 go_wp2
 ·rename_i hc
  go_ret
  refine⟨?_,rfl⟩
  have e:a.toList=[c]:=(eq_of_beq hc).symm
  have e2:a.data.toList=[c]:=by
   obtain⟨⟨l⟩⟩:=a
   simpa using e
  rw[e2]
  simp[Lib.indexByte]
 ·rw[run_callFunc_extern Go.Proofs.Tryz.func214 (by kernel_rfl) (by kernel_rfl) (by kernel_rfl) (e:=Extern.BytealgIndexByte.indexByte) (by kernel_rfl),Lib.run_indexByteString]
  simp only[Result.andThen]
  rw[Oper.upon_value]
  go_wp2
  go_ret
  exact⟨rfl,rfl⟩
def dW(s sub:aC):Option Int:=aH (sub.b.length=1) (some (Lib.indexByte s.b (ix sub.b 0)))
theorem sC{a b:aC}{s:ab}{Q:List AV->ab->Prop}(h:ok (dW a b) fun r=>Q [.int .i64 r] s):FN prog 351 [.str a.b,.str b.b] s Q:=by
 unfold dW at h
 rw[fM,aP]at h
 obtain⟨hl,h⟩:=h
 obtain⟨c,hc⟩:∃c,b.b=[c]:=List.length_eq_one_iff.1 hl
 rw[hc]at h⊢
 intro G w vs h1 h2 h3 h4
 obtain⟨v0,v1,rfl,k0,k1⟩:=Dk h4
 rw[VR.eV k0,VR.eV k1]
 refine(Gq _ c w).mono fun e w'⟨he,hw⟩=>?_
 subst hw
 exact⟨_,_,s,G,he,h,h1,h3,⟨.int _ _,trivial⟩,az.refl G w'⟩
theorem sB{a b:aC}{s:ab}{r:Int}(h:dW a b=some r):FE prog 351 [.str a.b,.str b.b] s [.int .i64 r] s:=sC ⟨r,h,rfl,rfl⟩
def bN(c:UInt8):Bool:=decide (48<=c.toNat)&&decide (c.toNat<=57)
theorem EY{G:Gh}{w:World}{s:ByteArray}{pos:Nat}(h:bR G w):bR (G.ot w.heap.size .none 0) (w.iter s pos)/\az G w (G.ot w.heap.size .none 0) (w.iter s pos)/\(∀{st:ab},aO G w st->aO (G.ot w.heap.size .none 0) (w.iter s pos) st):=by
 obtain⟨q1,q2,q3⟩:=eG h (.stringIter s pos) .none 0
 refine⟨q1,q2,fun hs=>hs.mono h q2 (fun b hb=>?_) (fun b c j _ hc=>?_)⟩
 ·obtain⟨k1,k2,k3⟩:=q3 b (by rw[hb];simp)
  exact⟨k1.trans hb,k2,k3⟩
 ·obtain⟨k1,k2,k3⟩:=q3 c (by rw[hc];simp)
  exact⟨k1.trans hc,k2,k3⟩
theorem LM(s:ByteArray)(pos:Nat)(h:pos<s.size):s.data.toList.drop pos=(s[pos]'h)::s.data.toList.drop (pos+1):=by
 have hl:pos<s.data.toList.length:=by simpa using h
 rw[List.drop_eq_getElem_cons hl]
 rfl
theorem ME(s:ByteArray)(w:World){r:Bool}(hr:s.data.toList.all bN=r):Calls prog 290 #[.string s] w fun e w'=>e=.returned (.bool r)/\∃pos,w'=w.iter s pos:=by
 have mixed:=mix
 have t3:prog.underlying 3=some (.int .i64):=by kernel_rfl
 have u3:=run_underlying t3
 have t9:prog.underlying 9=some .string:=by kernel_rfl
 have u9:=run_underlying t9
 go_enter Go.Proofs.Tryz.func290,(show Go.Proofs.Tryz.f290.ntmps=13 from rfl)
 go_wp2
 go_loopw [] (fun w'=>∃pos,w'=w.iter s pos/\(s.data.toList.drop pos).all bN=r) (fun w'=>s.size -w'.iterPos w.heap.size)
 case atStart=>exact⟨0,rfl,hr⟩
 case round=>
  obtain⟨pos,rfl,cE⟩:=hrel
  by_cases hp:pos<s.size
  ·rw[LM s pos hp,List.all_cons]at cE
   by_cases ha:(s[pos]'hp).toNat<128
   ·have hnx:∀ty,(Instr.next (.pointer (some ⟨w.heap.size,0,none⟩)) true ty).run prog (w.iter s pos)=_:=fun ty=>run_next_ascii w s pos ty hp ha
    generalize(s[pos]'hp)=c at hnx cE ha
    go_wp2
    all_goals first
     |(go_ret
       have hc:bN c=false:=by unfold bN;simp;omega
       rw[hc]at cE
       rw[<-cE]
       exact⟨rfl,_,rfl⟩)
     |(refine⟨⟨pos+1,rfl,?_⟩,by omega⟩
       have hc:bN c=true:=by unfold bN;simp;omega
       rw[hc,Bool.true_and]at cE
       exact cE)
   ·have hnx:∀ty,(Instr.next (.pointer (some ⟨w.heap.size,0,none⟩)) true ty).run prog (w.iter s pos)=_:=fun ty=>run_next_any w s pos ty hp
    have hd:=(decode_high s pos hp (by omega)).1
    have hd2:=decode_le s pos
    have hc:bN (s[pos]'hp)=false:=by unfold bN;simp;omega
    rw[hc]at cE
    generalize(Utf8.decode s pos).1=d at hnx hd hd2
    go_wp2
    all_goals first
     |omega
     |(go_ret
       rw[<-cE]
       exact⟨rfl,_,rfl⟩)
     |(exfalso;omega)
  ·have hnx:∀ty,(Instr.next (.pointer (some ⟨w.heap.size,0,none⟩)) true ty).run prog (w.iter s pos)=_:=fun ty=>run_next_end w s pos ty hp
   rw[List.drop_eq_nil_of_le (by simpa using(by omega:s.size<=pos))]at cE
   go_wp2
   go_ret
   rw[<-cE]
   exact⟨rfl,_,rfl⟩
def kN(s:aC):Option Bool:=some (s.b.all bN)
theorem KX{a:aC}{s:ab}{Q:List AV->ab->Prop}(h:ok (kN a) fun r=>Q [.bool r] s):FN prog 290 [.str a.b] s Q:=by
 unfold kN at h
 rw[aP]at h
 intro G w vs h1 h2 h3 h4
 obtain⟨v0,rfl,k0⟩:=JS h4
 rw[VR.eV k0]
 refine(ME ⟨a.b.toArray⟩ w (r:=a.b.all bN) (by simp)).mono fun e w'⟨he,pos,hw⟩=>?_
 subst hw
 obtain⟨q1,q2,q3⟩:=EY (s:=⟨a.b.toArray⟩) (pos:=pos) h1
 exact⟨_,_,s,_,he,h,q1,q3 h3,⟨.bool _,trivial⟩,q2⟩
theorem Cv{a:aC}{s:ab}{r:Bool}(h:kN a=some r):FE prog 290 [.str a.b] s [.bool r] s:=KX ⟨r,h,rfl,rfl⟩
end Go.AB
end
section
set_option maxRecDepth 4000
namespace Go.AB
open Go Go.RowKit
open Go.Proofs.Tryz (prog)
def fq(st:Int×Bool)(c:UInt8):Int×Bool:=
 let jl:=st.2||decide (st.1>(2147483647 -((c.toNat:Int) -48)).tdiv 10)
 (if jl then st.1 else 10*st.1+((c.toNat:Int) -48),jl)
def kj:List UInt8->Int×Bool->Int×Int
 |[],st=>if st.2 then(0,5)else(st.1,0)
 |c::l,st=>if bN c then kj l (fq st c)else(0,11)
def xG(r:Int×Int)(l:List UInt8)(v4 v5:Value):Prop:=∃(n:Int)(jl:Bool),v4=.int .i64 n/\v5=.bool jl/\0<=n/\n<=2147483647/\kj l (n,jl)=r
theorem xG.step{r:Int×Int}{c:UInt8}{l:List UInt8}{n m:Int}{jl o:Bool}(hd:48<=(c.toNat:Int)/\(c.toNat:Int)<=57)(h0:0<=n)(h1:n<=2147483647)(h:kj l (fq (n,jl) c)=r)
 (ho:o=(jl||decide (n>(2147483647 -((c.toNat:Int) -48)).tdiv 10)))(hm:m=if o then n else 10*n+((c.toNat:Int) -48)):xG r l (.int .i64 m) (.bool o):=by
 subst ho;subst hm
 refine⟨_,_,rfl,rfl,?_,?_,h⟩
 ·split<;>omega
 ·split
  ·omega
  ·rename_i hh
   have hh:¬n>(2147483647 -((c.toNat:Int) -48)).tdiv 10:=by simp at hh;omega
   rw[Int.tdiv_eq_ediv_of_nonneg (by omega)]at hh
   omega
theorem Ir{c:Int}(hd:48<=c/\c<=57):((((2147483647 -(((c -48+2147483648)% 4294967296 -2147483648+9223372036854775808)% 18446744073709551616 -9223372036854775808)+9223372036854775808)% 18446744073709551616 -9223372036854775808).tdiv 10+9223372036854775808)% 18446744073709551616 -9223372036854775808)=(2147483647 -(c -48)).tdiv 10:=by
 have e1:((c -48+2147483648)% 4294967296 -2147483648+9223372036854775808)% 18446744073709551616 -9223372036854775808=c -48:=by omega
 rw[e1]
 have e2:(2147483647 -(c -48)+9223372036854775808)% 18446744073709551616 -9223372036854775808=2147483647 -(c -48):=by omega
 rw[e2,Int.tdiv_eq_ediv_of_nonneg (by omega)]
 omega
theorem OK{c n:Int}(hd:48<=c/\c<=57)(h0:0<=n)(h1:n<=2147483647):((10*n+9223372036854775808)% 18446744073709551616 -9223372036854775808+(((c -48+2147483648)% 4294967296 -2147483648+9223372036854775808)% 18446744073709551616 -9223372036854775808)+9223372036854775808)% 18446744073709551616 -9223372036854775808=10*n+(c -48):=by omega
set_option maxHeartbeats 40000000 in
theorem F7(s:ByteArray)(w:World){r:Int×Int}(hr:(if s.data.toList=[]then(0,11)else kj s.data.toList (0,false))=r):Calls prog 291 #[.string s] w fun e w'=>e=.returned (.tuple #[.int .i64 r.1,.int .i64 r.2])/\(w'=w\/∃pos,w'=w.iter s pos):=by
 have mixed:=mix
 have t3:prog.underlying 3=some (.int .i64):=by kernel_rfl
 have u3:=run_underlying t3
 have t9:prog.underlying 9=some .string:=by kernel_rfl
 have u9:=run_underlying t9
 go_enter Go.Proofs.Tryz.func291,(show Go.Proofs.Tryz.f291.ntmps=36 from rfl)
 go_wp2
 ·have hq:= ‹s.toList.isEmpty=true›
  have hc:s.data.toList=[]:=by
   obtain⟨⟨l⟩⟩:=s
   simpa using hq
  rw[if_pos hc]at hr
  subst hr
  go_ret2
  exact⟨rfl,.inl rfl⟩
 have hq:= ‹s.toList.isEmpty=false›
 have hc:s.data.toList≠[]:=by
  obtain⟨⟨l⟩⟩:=s
  simpa using hq
 rw[if_neg hc]at hr
 go_loopw [4,5] (fun v4 v5 w'=>∃(pos:Nat),w'=w.iter s pos/\xG r (s.data.toList.drop pos) v4 v5) (fun _ _ w'=>s.size -w'.iterPos w.heap.size)
 case atStart=>exact⟨0,rfl,0,false,rfl,rfl,by omega,by omega,hr⟩
 case round=>
  obtain⟨pos,rfl,n,jl,rfl,rfl,hn0,hn1,cE⟩:=hrel
  by_cases hp:pos<s.size
  ·rw[LM s pos hp,kj]at cE
   by_cases ha:(s[pos]'hp).toNat<128
   ·have hnx:∀ty,(Instr.next (.pointer (some ⟨w.heap.size,0,none⟩)) true ty).run prog (w.iter s pos)=_:=fun ty=>run_next_ascii w s pos ty hp ha
    generalize(s[pos]'hp)=c at hnx cE ha
    by_cases hdig:48<=(c.toNat:Int)/\(c.toNat:Int)<=57
    ·have hc:bN c=true:=by unfold bN;simp;omega
     rw[if_pos hc]at cE
     cases jl<;>go_wp2
     all_goals first
      |(exfalso;omega)
      |(refine⟨⟨_,_,_,_,⟨pos+1,rfl,?_⟩,rfl,rfl,rfl,rfl⟩,by omega⟩
        first
         |exact xG.step hdig hn0 hn1 cE rfl rfl
         |(have hx:= ‹(!decide (_<n))=true›
           simp only[Bool.not_eq_true']at hx
           refine xG.step hdig hn0 hn1 cE (by rw[Ir hdig];rfl) ?_
           rw[hx]
           exact OK hdig hn0 hn1)
         |(have hx:= ‹(!decide (_<n))=false›
           simp only[Bool.not_eq_false']at hx
           refine xG.step hdig hn0 hn1 cE (by rw[Ir hdig];rfl) ?_
           rw[hx]
           rfl))
    ·have hc:bN c=false:=by unfold bN;simp;omega
     rw[hc]at cE
     have cE:((0:Int),(11:Int))=r:=cE
     subst cE
     cases jl<;>go_wp2
     all_goals first
      |(exfalso;omega)
      |(go_ret2
        exact⟨rfl,.inr ⟨_,rfl⟩⟩)
   ·have hnx:∀ty,(Instr.next (.pointer (some ⟨w.heap.size,0,none⟩)) true ty).run prog (w.iter s pos)=_:=fun ty=>run_next_any w s pos ty hp
    have hd:=(decode_high s pos hp (by omega)).1
    have hd2:=decode_le s pos
    have hc:bN (s[pos]'hp)=false:=by unfold bN;simp;omega
    rw[hc]at cE
    have cE:((0:Int),(11:Int))=r:=cE
    subst cE
    generalize(Utf8.decode s pos).1=d at hnx hd hd2
    cases jl<;>go_wp2
    all_goals first
     |(exfalso;omega)
     |(go_ret2
       exact⟨rfl,.inr ⟨_,rfl⟩⟩)
  ·have hnx:∀ty,(Instr.next (.pointer (some ⟨w.heap.size,0,none⟩)) true ty).run prog (w.iter s pos)=_:=fun ty=>run_next_end w s pos ty hp
   rw[List.drop_eq_nil_of_le (by simpa using(by omega:s.size<=pos))]at cE
   cases jl<;>go_wp2
   all_goals(go_ret2;subst cE;exact⟨rfl,.inr ⟨_,rfl⟩⟩)
def jk(s:aC):Option (Int×Int):=some (if s.b=[]then(0,11)else kj s.b (0,false))
theorem D6{a:aC}{s:ab}{Q:List AV->ab->Prop}(h:ok (jk a) fun r=>Q [.int .i64 r.1,.int .i64 r.2] s):FN prog 291 [.str a.b] s Q:=by
 unfold jk at h
 rw[aP]at h
 intro G w vs h1 h2 h3 h4
 obtain⟨v0,rfl,k0⟩:=JS h4
 rw[VR.eV k0]
 refine(F7 ⟨a.b.toArray⟩ w (r:=if a.b=[]then(0,11)else kj a.b (0,false)) (by simp)).mono fun e w'⟨he,hw⟩=>?_
 generalize(if a.b=[]then((0:Int),(11:Int))else kj a.b (0,false))=r at h he
 have ko:∀(G':Gh)(w':World),nj G' w' [.int .i64 r.1,.int .i64 r.2] (.tuple #[.int .i64 r.1,.int .i64 r.2]):=fun G' w'=>⟨_,rfl,rfl,fun j x y hx hy=>by
  match j,hx,hy with
  |0,hx,hy=>injection hx with hx;injection hy with hy;subst hx;subst hy;exact⟨.int _ _,trivial⟩
  |1,hx,hy=>injection hx with hx;injection hy with hy;subst hx;subst hy;exact⟨.int _ _,trivial⟩
  |_+2,hx,_=>simp at hx⟩
 rcases hw with hw|⟨pos,hw⟩
 ·subst hw
  exact⟨_,_,s,G,he,h,h1,h3,ko _ _,az.refl G w'⟩
 ·subst hw
  obtain⟨q1,q2,q3⟩:=EY (s:=⟨a.b.toArray⟩) (pos:=pos) h1
  exact⟨_,_,s,_,he,h,q1,q3 h3,ko _ _,q2⟩
theorem uz{a:aC}{s:ab}{r:Int×Int}(h:jk a=some r):FE prog 291 [.str a.b] s [.int .i64 r.1,.int .i64 r.2] s:=D6 ⟨r,h,rfl,rfl⟩
end Go.AB
end
section
set_option maxRecDepth 4000
namespace Go.AB
open Go
open Go.Proofs.Tryz (prog)
open Go.RowKit
theorem JK{P:Program}(a:Addr)(cap:Nat)(c:Int)(w:World):(Extern.BytealgIndexByte.indexByte #[.slice (some a) 0 cap,.int .u8 c]).run P w=.ok (.int .i64 (-1)) w:=rfl
theorem nO{v:Value}{cv r:Int}{w:World}(hr:(Extern.BytealgIndexByte.indexByte #[v,.int .u8 cv]).run prog w=.ok (.int .i64 r) w):Calls prog 261 #[v,.int .u8 cv] w fun e w'=>e=.returned (.int .i64 r)/\w'=w:=by
 have mixed:=mix
 go_enter Go.Proofs.Tryz.func261,(show Go.Proofs.Tryz.f261.ntmps=8 from rfl)
 go_wp2
 rw[run_callFunc_extern Go.Proofs.Tryz.func296 (by kernel_rfl) (by kernel_rfl) (by kernel_rfl) (e:=Extern.BytealgIndexByte.indexByte) (by kernel_rfl),hr]
 simp only[Result.andThen]
 rw[Oper.upon_value]
 go_wp2
 go_ret
 exact⟨rfl,rfl⟩
theorem Bu:∀l:List UInt8,Lib.bytesOf (l.map fun c=>(c.toNat:Int))=l
 |[]=>rfl
 |c::l=>by
  have h:=Bu l
  unfold Lib.bytesOf at h⊢
  rw[List.map_cons,List.map_cons,h]
  congr 1
  simp
def dv(s:List UInt8)(c:UInt8):Option Int:=some (Lib.indexByte s c)
theorem uJ{a:List UInt8}{c:UInt8}{s:ab}{Q:List AV->ab->Prop}(h:ok (dv a c) fun r=>Q [.int .i64 r] s):FN prog 261 [.sl false 1 a.length (flat a),.int .u8 c.toNat] s Q:=by
 unfold dv at h
 rw[aP]at h
 intro G w vs h1 h2 h3 h4
 obtain⟨v0,v1,rfl,k0,k1⟩:=Dk h4
 rw[VR.bT k1]
 have ec:((c.toNat:Int).toNat).toUInt8=c:=by simp
 have fin:∀(e:Ending)(w':World)(r:Int),r=Lib.indexByte a c->e=.returned (.int .i64 r)/\w'=w->∃v rs s' G',e=.returned v/\Q rs s'/\bR G' w'/\aO G' w' s'/\nj G' w' rs v/\az G w G' w':=by
  rintro e w' r hr ⟨he,hw⟩
  subst hw;subst hr
  exact⟨_,_,s,G,he,h,h1,h3,⟨.int _ _,trivial⟩,az.refl G w'⟩
 have e0:∀b:List UInt8,a=[]->Lib.indexByte a c=-1:=fun _ e=>by subst e;rfl
 rcases VR.fD k0 with⟨(e|⟨_,ad,cap,e⟩),h0,_⟩|⟨b,off,cap,e,hcl,hRb,fQ,hat⟩
 ·subst e
  have ha:a=[]:=List.eq_nil_of_length_eq_zero h0
  exact(nO (Lib.run_indexByteNil w 0 0 _)).mono fun e w' hh=>fin e w' _ (e0 a ha).symm hh
 ·subst e
  have ha:a=[]:=List.eq_nil_of_length_eq_zero h0
  exact(nO (JK ad cap _ w)).mono fun e w' hh=>fin e w' _ (e0 a ha).symm hh
 ·subst e
  obtain⟨u,u1,u2,_⟩:=hat
  have gq:∀i,i<a.length->w.cell? ⟨b,off+i,none⟩=some (.int .u8 ((a.map fun c=>(c.toNat:Int)).getD i 0)):=by
   intro i hi
   have hfj:(flat a)[i]? =some (.int .u8 (a[i]).toNat):=by
    have hm:∀l:List UInt8,flat l=l.map fun c=>AV.int .u8 c.toNat:=fun l=>by
     induction l with
     |nil=>rfl
     |cons c l ih=>rw[List.map_cons,<-ih];rfl
    rw[hm,List.getElem?_map,List.getElem?_eq_getElem hi];rfl
   rw[u1 i _ hfj,VR.bT (u2 i _ hfj)]
   simp[List.getD_eq_getElem?_getD,hi]
  refine(nO (Lib.run_indexByteSlice w b off a.length cap (a.map fun c=>(c.toNat:Int)) (by simp) gq _)).mono fun e w' hh=>fin e w' _ ?_ hh
  rw[Bu,ec]
theorem uI{a:List UInt8}{c:UInt8}{s:ab}{r:Int}(h:dv a c=some r):FE prog 261 [.sl false 1 a.length (flat a),.int .u8 c.toNat] s [.int .i64 r] s:=uJ ⟨r,h,rfl,rfl⟩
end Go.AB
end
section
namespace Go.AB
open Go
@[go_sem]theorem aaz(l:List UInt8)(hi:Int):(l.drop 1).take (hi -1).toNat=part l 1 hi:=rfl
def Wi(pre cs post:List AV):List AV:=pre++cs++post
@[go_sem]theorem ab4(c:AV)(cs r:List AV):Wi [] (c::cs) r=c::Wi [] cs r:=rfl
@[go_sem]theorem ade(r:List AV):Wi [] [] r=r:=rfl
@[go_sem]theorem ab5(p cs r:List AV)(a:AV):Wi p cs (a::r)=Wi p (cs++[a]) r:=by simp[Wi]
theorem Oa(p cs r:List AV):(Wi p cs r).length=p.length+cs.length+r.length:=by simp[Wi];omega
@[go_sem]theorem aeD(p cs r:List AV)(k n:Nat)(h:k+n<=cs.length):(p.length+k+n<=(Wi p cs r).length)=True:=by rw[Oa];exact eq_true (by omega)
@[go_sem]theorem aer(p cs r:List AV)(k n:Nat)(h:k+n<=cs.length):AB.sub (Wi p cs r) (p.length+k) n=AB.sub cs k n:=by
  unfold AB.sub Wi
  rw[List.append_assoc,<-List.drop_drop,List.drop_left,List.drop_append_of_le_length (by omega),List.take_append_of_le_length (by rw[List.length_drop];omega)]
theorem za(p cs r:List AV)(k:Nat)(news:List AV)(h:k+news.length<=cs.length):setAt (Wi p cs r) (p.length+k) news=Wi p (setAt cs k news) r:=by
 unfold setAt Wi
 have e1:(p++cs++r).take (p.length+k)=p++cs.take k:=by rw[List.append_assoc,List.take_append,List.take_of_length_le (by omega),Nat.add_sub_cancel_left,List.take_append_of_le_length (by omega)]
 have e2:(p++cs++r).drop (p.length+k+news.length)=cs.drop (k+news.length)++r:=by rw[List.append_assoc,Nat.add_assoc,<-List.drop_drop,List.drop_left,List.drop_append_of_le_length h]
 rw[e1,e2]
 simp[List.append_assoc]
@[go_sem]theorem QC(p cs r:List AV)(k:Nat)(news:List AV)(h:k+news.length<=cs.length):setAt (Wi p cs r) (p.length+k) news=Wi p (setAt cs k news) r:=za p cs r k news h
theorem Gg(p cs r:List AV)(k:Nat)(h:k<cs.length):(Wi p cs r)[p.length+k]? =cs[k]? :=by
 unfold Wi
 rw[List.append_assoc,List.getElem?_append_right (by omega),Nat.add_sub_cancel_left,List.getElem?_append_left h]
@[go_sem]theorem Vl(p cs r:List AV)(k:Nat)(h:k<cs.length):(Wi p cs r)[p.length+k]? =cs[k]? :=Gg p cs r k h
@[go_sem]theorem RK(p cs r:List AV)(h:0<cs.length):(Wi p cs r)[p.length]? =cs[0]? :=Gg p cs r 0 h
theorem NL(p cs r:List AV)(k:Nat)(K:List AV->AV->Prop)(h:k<cs.length):iD (p.length+k) (Wi p cs r) K=iD k cs fun cs' a=>K (Wi p cs' r) a:=by
 unfold iD
 rw[Gg p cs r k h]
 cases cs[k]? with
 |none=>rfl
 |some a=>
  cases a<;>try rfl
  ·rename_i o sz n ds
   show K (setAt (Wi p cs r) (p.length+k) [.sl false sz n ds]) _=K (Wi p (setAt cs k [.sl false sz n ds]) r) _
   rw[za p cs r k [.sl false sz n ds] (show k+1<=cs.length by omega)]
  ·rename_i tb m es
   show K (setAt (Wi p cs r) (p.length+k) [.sl false 1 m es]) _=K (Wi p (setAt cs k [.sl false 1 m es]) r) _
   rw[za p cs r k [.sl false 1 m es] (show k+1<=cs.length by omega)]
@[go_sem]theorem QN(p cs r:List AV)(k:Nat)(K:List AV->AV->Prop)(h:k<cs.length):iD (p.length+k) (Wi p cs r) K=iD k cs fun cs' a=>K (Wi p cs' r) a:=NL p cs r k K h
attribute[go_sem] Nat.add_zero
@[go_sem]theorem du{α:Type}(l:List α)(hi:Int):part l 0 hi=l.take hi.toNat:=by
  unfold part
  rw[Int.toNat_zero,List.drop_zero,Int.sub_zero]
@[go_sem]theorem aaq(n:Nat):((6:Int)<=((n+6:Nat):Int))=True:=eq_true (by omega)
@[go_sem]theorem adp(l:List UInt8):l.getD 0 0=ix l 0:=rfl
@[go_sem]theorem tz:((0:Int)<=0)=True:=eq_true (by decide)
@[go_sem]theorem ae9:((0:Int)<=1)=True:=eq_true (by decide)
@[go_sem]theorem afa:((0:Int)<=6)=True:=eq_true (by decide)
structure zo where
 used:Bool
 own:Bool
 buf:aC
def zo.zero:zo:=⟨false,true,⟨[]⟩⟩
def dA(T B o:Nat)(b:zo):AV:=bif b.used then .ref B o else .lW T
def di(b:zo):AV:=bif b.own then .bb 5 b.buf.b.length (flat b.buf.b)else .sl false 1 b.buf.b.length (flat b.buf.b)
@[go_sem]theorem Xv(T B o:Nat):dA T B o zo.zero=.lW T:=rfl
@[go_sem]theorem Xw:di zo.zero=.bb 5 0 []:=rfl
@[go_sem]theorem Zu(ne:Bool)(vs:List AV):IA ne (.gb vs)=.no:=rfl
structure Rj where
instance:aR Rj:=⟨1,fun _=>[.kp],.mk,by decide,fun _=>rfl,fun _=>rfl⟩
end Go.AB
end
section
set_option maxRecDepth 4000
namespace Go.AB
open Go
open Go.Proofs.Tryz (prog)
attribute[-go_sem] Nat.add_zero tz du
def kY:IC:=
 (ag [mv 2 0,nc 3 2,fa 4 0 3,ld 5 1 4,i1 6 (.HO false (.t 5) (.c (.cZ)))] [0,6]
 (.cond (.t 6) (.bP none [mv 7 0,mv 8 0,i1 9 (.F5 (.t 8)),i1 10 (.vK 327 (.t 9)),i1 11 (.F4 249 (.t 10)),nc 12 7,fa 13 0 12,st 1 13 11] [])
 (ag [mv 14 0,nc 15 14,fa 16 0 15,ld 17 1 16,mv 18 0,i1 19 (.HO true (.t 17) (.t 18))] [19]
 (.cond (.t 19) .dead
 .skip))))
theorem rQ:aY prog 295 20 [] kY=true:=by kernel_rfl
def kX:IC:=
 (ag [cY 4 (.kp)] [0,1]
 (ag [mv 5 0,c1 6 295 5] [0,1]
 (ag [mv 7 0,mv 8 0,nc 9 8,fa 10 1 9,i1 11 (.lq (.t 10)),mv 12 1,i1 13 (.bB 1 1 [.int .u8 0] [(0,1,(.t 12))]),i1 14 (.lU 5 (.t 11) (.t 13)),nc 15 7,fa 16 1 15,st 1 16 14] []
 (ag [cY 4 (.kp)] [4]
 .ret))))
theorem rP:aY prog 259 17 [⟨4,true,none⟩] kX=true:=by kernel_rfl
theorem aaL:ZZ prog 327:=fun x w=>by
 rw[run_callFunc_extern Go.Proofs.Tryz.func327 (by kernel_rfl) (by kernel_rfl) (by kernel_rfl) (e:=Extern.AbiNoEscape.same) (by kernel_rfl)]
 rfl
theorem QD{s:ab}{B:Nat}{o:SO}(h:s B=some o):s.set B o=s:=by
 funext i
 unfold ab.set
 split
 ·rename_i e;subst e;exact h.symm
 ·rfl
theorem F3{b:zo}{B T o:Nat}{pre post:List AV}{s:ab}{Q:List AV->ab->Prop}(hB:s B=some (.cells (Wi pre [dA T B o b,di b] post)))(eB:pre.length=o)
 (lB:Jg prog T (pre.length+2+post.length) o 249=true)(hq:Q [] (s.set B (.cells (Wi pre [.ref B o,di b] post)))):FN prog 295 [.ref B o] s Q:=by
 subst eB
 obtain⟨u,ow,bf⟩:=b
 have hl:(Wi pre [dA T B pre.length ⟨u,ow,bf⟩,di ⟨u,ow,bf⟩] post).length=pre.length+2+post.length:=by rw[Oa];rfl
 have ha:(Wi pre [dA T B pre.length ⟨u,ow,bf⟩,di ⟨u,ow,bf⟩] post)[pre.length]? =some (dA T B pre.length ⟨u,ow,bf⟩):=by rw[RK _ _ _ (by simp)];rfl
 refine FO rQ rfl rfl ?_
 rw[kY]
 have hB':=hB
 cases u with
 |true=>
  have e:dA T B pre.length ⟨true,ow,bf⟩=.ref B pre.length:=rfl
  rw[e]at hB' hB
  rw[QD hB]at hq
  simp -implicitDefEqProofs only[go_sem,Nat.reduceBEq,Nat.reduceAdd,Nat.reduceMul,Nat.reduceLeDiff,Nat.reduceEqDiff,Nat.reduceBNe,UInt8.reduceToNat,UInt32.reduceToNat,hB']
  exact⟨fun h=>h.elim,fun _ _=>hq⟩
 |false=>
  have e:dA T B pre.length ⟨false,ow,bf⟩=.lW T:=rfl
  rw[e]at hB' ha hl
  simp -implicitDefEqProofs only[go_sem,Nat.reduceBEq,Nat.reduceAdd,Nat.reduceMul,Nat.reduceLeDiff,Nat.reduceEqDiff,Nat.reduceBNe,UInt8.reduceToNat,UInt32.reduceToNat,hB',set_set,bc]
  refine⟨fun _=>⟨by rw[hl];omega,aaL,T,ha,by rw[hl];exact lB,hq⟩,fun h=>(by cases h)⟩
def aw(b:zo)(c:UInt8):Option (Rj×zo):=
 aH (b.own=true)<|
 aH (b.buf.b.length+1<=room)<|
 some (Rj.mk,⟨true,true,⟨b.buf.b++[c]⟩⟩)
theorem bF{b_0:zo}{c_1:UInt8}{B0:Nat}{preB0 postB0:List AV}{oB0 TB0:Nat}{s:ab}{Q:List AV->ab->Prop}(hB0:s B0=some (.cells (Wi preB0 [dA TB0 B0 oB0 b_0,di b_0] postB0)))(eB0:preB0.length=oB0)(lB0:Jg prog TB0 (preB0.length+2+postB0.length) oB0 249=true):
 ok (aw b_0 c_1) (fun r=>Q [.kp] (s.set B0 (.cells (Wi preB0 [dA TB0 B0 oB0 r.2,di r.2] postB0))))->FN prog 259 [.ref B0 oB0,.int .u8 c_1.toNat] s Q:=by
 unfold aw
 rintro⟨r,h1,h2⟩
 unfold aH at h1
 split at h1<;>try(cases h1;done)
 rename_i how
 split at h1<;>try(cases h1;done)
 rename_i hrm
 injection h1 with h1
 subst h1
 subst eB0
 obtain⟨u,ow,bf⟩:=b_0
 obtain rfl:ow=true:=how
 refine FO rP rfl rfl ?_
 rw[kX]
 simp -implicitDefEqProofs only[go_sem,Nat.reduceBEq,Nat.reduceAdd,Nat.reduceMul,Nat.reduceLeDiff,Nat.reduceEqDiff,Nat.reduceBNe,UInt8.reduceToNat,UInt32.reduceToNat]
 refine F3 hB0 rfl lB0 ?_
 have e1:di ⟨u,true,bf⟩=.bb 5 bf.b.length (flat bf.b):=rfl
 rw[e1]
 simp -implicitDefEqProofs only[go_sem,Nat.reduceBEq,Nat.reduceAdd,Nat.reduceMul,Nat.reduceLeDiff,Nat.reduceEqDiff,Nat.reduceBNe,UInt8.reduceToNat,UInt32.reduceToNat,bc,set_set]
 rw[QN _ _ _ _ _ (by simp)]
 simp -implicitDefEqProofs only[go_sem,Nat.reduceBEq,Nat.reduceAdd,Nat.reduceMul,Nat.reduceLeDiff,Nat.reduceEqDiff,Nat.reduceBNe,UInt8.reduceToNat,UInt32.reduceToNat,bc,set_set]
 have e2:di ⟨true,true,⟨bf.b++[c_1]⟩⟩=.bb 5 (bf.b.length+1) (flat bf.b++[.int .u8 c_1.toNat]):=by
  show AV.bb 5 (bf.b++[c_1]).length (flat (bf.b++[c_1]))=_
  rw[eH,List.length_append];rfl
 refine⟨by rw[Nat.mul_one];exact hrm,?_⟩
 have h3:Q [.kp] (s.set B0 (.cells (Wi preB0 [.ref B0 preB0.length,di ⟨true,true,⟨bf.b++[c_1]⟩⟩] postB0))):=h2
 rw[e2]at h3
 exact h3
def bw(b:zo):Option (aC×zo):=aH (b.own=true/\b.buf.b.length<=room)<|some (b.buf,⟨b.used,false,b.buf⟩)
set_option maxHeartbeats 2000000 in
set_option maxRecDepth 100000 in
theorem HS{w:World}{B o:Nat}(hc:w.cell? ⟨B,o+1,none⟩=some (.slice none 0 0)):
 Calls prog 258 #[.pointer (some ⟨B,o,none⟩)] w fun e w'=>e=.returned (.string ⟨#[]⟩)/\w'=w.drew:=by
 have hUS:(Builtin.unsafeString_ #[378,3] 9 #[.pointer none,.int .i64 0]).run prog w.drew=.ok (.string .empty) w.drew:=Lib.run_unsafeString_none _ _ _ _ none
 have hSD:(Builtin.unsafeSliceData_ #[22] 378 #[.slice none 0 0]).run prog w.drew=.ok (.pointer none) w.drew:=Lib.run_unsafeSliceData_nil _ _ _ _ _
 have c1:w.drew.cell? ⟨B,o+1,none⟩=some (.slice none 0 0):=hc
 have mixed:=mix
 go_enter Go.Proofs.Tryz.func258,(show Go.Proofs.Tryz.f258.ntmps=14 from rfl)
 go_wp2
 go_region
 all_goals(go_wp2;go_ret;exact⟨rfl,rfl⟩)
set_option maxHeartbeats 2000000 in
set_option maxRecDepth 100000 in
theorem HT{w:World}{B o g cap:Nat}{cur:Array Value}{fz:Nat×Nat}{l:List UInt8}(hc:w.cell? ⟨B,o+1,none⟩=some (.slice (some ⟨g,0,none⟩) l.length cap))(hg:w.heap[g]? =some (.cells cur 5 fz))(h0:l≠[])(fQ:cap≠0)(hsz:l.length<=cur.size)(hm:l.length<=9223372036854775807)
 (cS:∀(j:Nat)(x:UInt8),l[j]? =some x->w.cell? ⟨g,j,none⟩=some (.int .u8 x.toNat)):
 Calls prog 258 #[.pointer (some ⟨B,o,none⟩)] w fun e w'=>e=.returned (.string ⟨l.toArray⟩)/\w'=w.drew.freeze ⟨g,0,none⟩ l.length:=by
 have hUS:(Builtin.unsafeString_ #[378,3] 9 #[.pointer (some ⟨g,0,none⟩),.int .i64 l.length]).run prog w.drew=.ok (.string ⟨l.toArray⟩) (w.drew.freeze ⟨g,0,none⟩ l.length):=
  Lib.run_unsafeString_row w.drew 378 3 9 5 (by kernel_rfl) (by kernel_rfl) g cur.size (by have hg':w.drew.heap[g]? =some (.cells cur 5 fz):=hg;simp[World.shape?,hg']) l h0 hsz hm (fun j x hj=>by
   have:=cS j x hj
   simp only[Addr.add,Nat.zero_add]
   split
   ·rename_i e;subst e;exact this
   ·exact this)
 have hSD:(Builtin.unsafeSliceData_ #[22] 378 #[.slice (some ⟨g,0,none⟩) l.length cap]).run prog w.drew=.ok (.pointer (some ⟨g,0,none⟩)) w.drew:=Lib.run_unsafeSliceData_row _ _ _ _ _ _ fQ
 have c1:w.drew.cell? ⟨B,o+1,none⟩=some (.slice (some ⟨g,0,none⟩) l.length cap):=hc
 have mixed:=mix
 clear cS hc hm hsz fQ
 go_enter Go.Proofs.Tryz.func258,(show Go.Proofs.Tryz.f258.ntmps=14 from rfl)
 go_wp2
 go_region
 all_goals(go_wp2;go_ret;exact⟨rfl,rfl⟩)
end Go.AB
end
section
set_option maxRecDepth 4000
namespace Go.AB
open Go
open Go.Proofs.Tryz (prog)
theorem zB{w:World}{g n:Nat}{c:Array Value}{t:TypeId}{fz:Nat×Nat}(hg:w.heap[g]? =some (.cells c t fz)):
 (∀b,b≠g->(w.freeze ⟨g,0,none⟩ n).heap[b]? =w.heap[b]?)/\(w.freeze ⟨g,0,none⟩ n).heap.size=w.heap.size/\∃fz',(w.freeze ⟨g,0,none⟩ n).heap[g]? =some (.cells c t fz'):=by
 unfold World.freeze
 split
 ·exact⟨fun _ _=>rfl,rfl,fz,hg⟩
 ·refine⟨fun b hb=>?_,by simp,?_⟩
  ·simp only[Array.getElem?_modify]
   rw[if_neg (by omega)]
  ·simp only[Array.getElem?_modify,if_true,hg,Option.map_some]
   exact⟨_,rfl⟩
theorem IL{w:World}{g n:Nat}{c:Array Value}{t:TypeId}{fz:Nat×Nat}(hg:w.heap[g]? =some (.cells c t fz))(b k:Nat):(w.freeze ⟨g,0,none⟩ n).cell? ⟨b,k,none⟩=w.cell? ⟨b,k,none⟩:=by
 obtain⟨h1,_,fz',h2⟩:=zB (n:=n) hg
 by_cases hb:b=g
 ·subst hb
  rw[cell_of_row _ h2,cell_of_row _ hg]
 ·exact World.cell?_of_block (h1 b hb)
theorem QL{G:Gh}{w:World}{s:ab}{B o n:Nat}{cs:List AV}{ds:List AV}(hg:bR G w)(hs:aO G w s)(hB:s B=some (.cells cs))(ho:cs[o]? =some (.bb 5 n ds)):
 aO (G.fK (.cell B o) .frame) w (s.set B (.cells (setAt cs o [.sl false 1 n ds])))/\bR (G.fK (.cell B o) .frame) w/\az G w (G.fK (.cell B o) .frame) w:=by
 have hne:∀b,G.O b≠.cell B o->(G.fK (.cell B o) .frame).O b=G.O b:=fun b hb=>by simp[hb]
 have iR:bR (G.fK (.cell B o) .frame) w:=⟨fun b hb=>by rw[hne b (by rw[hg.ik b hb];simp),hg.ik b hb],hg.iT⟩
 have aV:az G w (G.fK (.cell B o) .frame) w:=⟨rfl,rfl,rfl,Nat.le_refl _,Nat.le_refl _,fun _ _=>Nat.le_refl _,fun _ _ _ _=>rfl,fun _ _ _=>rfl,fun b _ hb=>⟨by rw[hne b (by rw[hb];simp),hb],rfl⟩,fun b _ hb=>⟨by rw[hne b (by rw[hb];simp),hb],rfl⟩⟩
 refine⟨?_,iR,aV⟩
 obtain⟨q2,q3,c,t,q4,q5,q6⟩:=hs B _ hB
 intro b' ob hb'
 unfold ab.set at hb'
 by_cases hbg:b'=B
 ·rw[if_pos hbg]at hb';injection hb' with hb';subst hb';subst hbg
  exact⟨by rw[hne b' (by rw[q2];simp),q2],q3,c,t,q4,cP.take (av:=.bb 5 n ds) q5 ho,xH.setAt q6 (by intro z hz;rw[List.mem_singleton]at hz;subst hz;rfl) o⟩
 ·rw[if_neg hbg]at hb'
  obtain⟨r1,r2,r3⟩:=hs b' ob hb'
  refine⟨by rw[hne b' (by rw[r1];simp),r1],r2,?_⟩
  cases ob with
  |cells cs'=>
   obtain⟨c0,t0,r4,r5,r6⟩:=r3
   exact⟨c0,t0,r4,r5.mono (fun _ _ hv=>hv) (fun b'' j kl=>⟨by rw[hne b'' (by rw[kl];intro e;injection e with e _;exact hbg e),kl],rfl,rfl⟩),r6⟩
  |map es=>exact r3
theorem zA:∀l:List UInt8,flat l=l.map fun c=>AV.int .u8 c.toNat
 |[]=>rfl
 |c::l=>by rw[List.map_cons,<-zA l];rfl
theorem IH(l:List UInt8)(j:Nat):(flat l)[j]? =l[j]?.map fun c=>AV.int .u8 c.toNat:=by rw[zA,List.getElem?_map]
theorem fe{b_0:zo}{B0:Nat}{preB0 postB0:List AV}{oB0 TB0:Nat}{s:ab}{Q:List AV->ab->Prop}(hB0:s B0=some (.cells (Wi preB0 [dA TB0 B0 oB0 b_0,di b_0] postB0)))(eB0:preB0.length=oB0)(lB0:Jg prog TB0 (preB0.length+2+postB0.length) oB0 249=true):
 ok (bw b_0) (fun r=>Q [.str r.1.b] (s.set B0 (.cells (Wi preB0 [dA TB0 B0 oB0 r.2,di r.2] postB0))))->FN prog 258 [.ref B0 oB0] s Q:=by
 unfold bw
 rintro⟨r,h1,h2⟩
 unfold aH at h1
 split at h1<;>try(cases h1;done)
 rename_i how
 injection h1 with h1
 subst h1
 subst eB0
 obtain⟨u,ow,⟨l⟩⟩:=b_0
 obtain⟨how,bz⟩:=how
 obtain rfl:ow=true:=how
 have bz:l.length<=room:=bz
 intro G w vs hg afi hs ha
 have hvs:vs= #[.pointer (some ⟨B0,preB0.length,none⟩)]:=by
  obtain⟨hl,hr⟩:=ha
  obtain⟨vl⟩:=vs
  match vl,hl with
  |[v],_=>rw[VR.fu (hr 0 _ v rfl rfl)]
  |[],hl=>simp at hl
  |_::_::_,hl=>simp at hl
 subst hvs
 let A:=dA TB0 B0 preB0.length ⟨u,true,⟨l⟩⟩
 have hbb:(Wi preB0 [A,di ⟨u,true,⟨l⟩⟩] postB0)[preB0.length+1]? =some (.bb 5 l.length (flat l)):=by rw[Vl _ _ _ _ (by simp)];rfl
 have VG:setAt (Wi preB0 [A,di ⟨u,true,⟨l⟩⟩] postB0) (preB0.length+1) [.sl false 1 l.length (flat l)]=Wi preB0 [A,.sl false 1 l.length (flat l)] postB0:=by rw[QC _ _ _ _ _ (by simp)];rfl
 obtain⟨k1,k2,k3⟩:=QL hg hs hB0 hbb
 rw[VG]at k1
 have hq:Q [.str l] (s.set B0 (.cells (Wi preB0 [A,.sl false 1 l.length (flat l)] postB0))):=h2
 obtain⟨q2,q3,c,t,q4,q5,q6⟩:=hs B0 _ hB0
 have hlt:preB0.length+1<c.size:=by rw[q5.1];exact(List.getElem?_eq_some_iff.1 hbb).1
 have cS:=Array.getElem?_eq_getElem hlt
 obtain⟨hv,hw⟩:=q5.2 _ _ _ hbb cS
 have hwc:w.cell? ⟨B0,preB0.length+1,none⟩=some c[preB0.length+1]:=by rw[cell_of_row w q4,cS]
 generalize c[preB0.length+1]=v at hv hw hwc
 cases l with
 |nil=>
  obtain rfl:=VR.R6 hv
  refine(HS hwc).mono fun e w'⟨he,hw'⟩=>?_
  subst hw'
  refine⟨_,_,_,G.fK (.cell B0 (preB0.length+1)) .frame,he,hq,⟨k2.ik,k2.iT⟩,?_,⟨.str _,trivial⟩,k3.trans (az.drew _ w)⟩
  exact k1.mono k2 (az.drew _ w) (fun _ hb=>⟨hb,rfl,rfl⟩) (fun _ _ _ _ hc=>⟨hc,rfl,rfl⟩)
 |cons x l'=>
  generalize hL:x::l'=L at*
  have hL0:L≠[]:=by rw[<-hL];simp
  have gQ:0<L.length:=by rw[<-hL];simp
  rcases VR.fD (VR.Px hv)with⟨_,h0,_⟩|⟨g,off,cap,rfl,hcl,hRb,fQ,hat⟩
  ·omega
  ·obtain⟨b',Wt,cur,fz,e1,e2,e3,e4,e5,e6⟩:=hw _ _ _ rfl (.inr gQ)
   injection e1 with e1;injection e1 with e1 e1' _
   subst e1;subst e1'
   obtain rfl:off=0:=e6.2.2.1
   have gq:∀(j:Nat)(y:UInt8),L[j]? =some y->w.cell? ⟨g,j,none⟩=some (.int .u8 y.toNat):=by
    intro j y hj
    obtain⟨uu,u1,u2,_⟩:=hat
    have hfj:(flat L)[j]? =some (.int .u8 y.toNat):=by rw[IH,hj];rfl
    have:=u1 j _ hfj
    rw[Nat.zero_add]at this
    rw[this,VR.bT (u2 j _ hfj)]
   refine(HT hwc e4 hL0 (by omega) (by rw[e5];omega) (by have:room=140737488355328:=rfl;omega) gq).mono fun e w'⟨he,hw'⟩=>?_
   subst hw'
   obtain⟨f1,f2,fz',f3⟩:=zB (w:=w.drew) (n:=L.length) e4
   have hgO:G.O g=.cell B0 (preB0.length+1):=e2
   let G':=G.fK (.cell B0 (preB0.length+1)) .frame
   have ZC:G'.O g=.frame:=by simp[G',hgO]
   have hfc:=IL (w:=w.drew) (n:=L.length) e4
   have hne:∀b,G.O b≠.cell B0 (preB0.length+1)->G'.O b=G.O b:=fun b hb=>by simp[G',hb]
   have aV:az G w G' (w.drew.freeze ⟨g,0,none⟩ L.length):=by
    refine⟨?_,?_,?_,?_,?_,fun _ _=>Nat.le_refl _,fun b k _ _=>hfc b k,fun b _ hb=>?_,fun b _ hb=>⟨?_,rfl⟩,fun b _ hb=>⟨?_,rfl⟩⟩
    ·unfold World.freeze;split<;>rfl
    ·unfold World.freeze;split<;>rfl
    ·unfold World.freeze;split<;>rfl
    ·unfold World.freeze;split<;>exact Nat.le_succ _
    ·rw[f2];exact Nat.le_refl _
    ·exact f1 b (fun e=>by subst e;rw[hgO]at hb;rcases hb with hb|hb<;>cases hb)
    ·rw[hne b (by rw[hb];simp),hb]
    ·rw[hne b (by rw[hb];simp),hb]
   have hvr:∀a v,VR w G'.R a v->VR (w.drew.freeze ⟨g,0,none⟩ L.length) G'.R a v:=fun a v h=>VR.mono (w:=w) (fun _=>Nat.le_refl _) (fun b k _=>hfc b k) h
   refine⟨_,_,_,G',he,hq,⟨fun b hb=>?_,fun b hb=>?_⟩,?_,⟨.str _,trivial⟩,aV⟩
   ·rw[f2]at hb;exact k2.ik b hb
   ·rw[f2]at hb;exact k2.iT b hb
   ·refine k1.wX hvr (fun b hb=>⟨hb,rfl,f1 b (fun e=>by subst e;rw[ZC]at hb;cases hb)⟩) (fun b c' j _ hc=>⟨hc,rfl,f1 c' (fun e=>by subst e;rw[ZC]at hc;cases hc)⟩)
end Go.AB
end
