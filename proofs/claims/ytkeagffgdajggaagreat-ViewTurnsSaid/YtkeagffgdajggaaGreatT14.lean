/- A part of the proof: Ir, Pure1, Na, Nd, Ib, Lm, At, Lx. -/
import Derived.Test.YtkeagffgdajggaaGreatT11
import Derived.Laws.RangeAny
import Derived.LoopTactic
import Derived.Lib.Bytealg
import Derived.Laws.Externs
import Derived.Lib.Walk
import Derived.Test.YtkeagffgdajggaaGreatT12
import Derived.Lib.BytesEntry
set_option linter.unusedSimpArgs false
set_option linter.unusedVariables false
section
namespace Go.AB
open Go
def fa(d o x:Nat):ah:=⟨some d,.fieldAddr o (.t x),none⟩
def ld(d n x:Nat):ah:=⟨some d,.load n false (.t x),none⟩
def lm(d n x:Nat):ah:=⟨some d,.load n true (.t x),none⟩
def cV(d:Nat)(a:AV):ah:=⟨some d,.iR false (.c a),none⟩
def mi(d:Nat)(n:Int):ah:=⟨some d,.iR false (.c (.int .i64 n)),none⟩
def c1(d f x:Nat):ah:=⟨some d,.call f [.t x],none⟩
def c2(d f x y:Nat):ah:=⟨some d,.call f [.t x,.t y],none⟩
def c3(d f x y z:Nat):ah:=⟨some d,.call f [.t x,.t y,.t z],none⟩
def ex(d x k:Nat):ah:=⟨some d,.extract (.t x) k,none⟩
def st(n p v:Nat):ah:=⟨none,.store n (.t p) (.t v),none⟩
def bn(d:Nat)(o:BinOp)(x:Nat)(n:Int):ah:=⟨some d,.bin o (.t x) (.c (.int .i64 n)),none⟩
def bu(d:Nat)(o:BinOp)(x:Nat)(n:Int):ah:=⟨some d,.bin o (.t x) (.c (.int .u8 n)),none⟩
def bt(d:Nat)(o:BinOp)(x y:Nat):ah:=⟨some d,.bin o (.t x) (.t y),none⟩
def nc(d x:Nat):ah:=⟨some d,.nilCheck (.t x),none⟩
def le(d k x:Nat):ah:=⟨some d,.len k (.t x),none⟩
def no(d x:Nat):ah:=⟨some d,.un .not (.t x),none⟩
def pf(d x y:Nat):ah:=⟨some d,.pick (.t x) (.t y) (.c (.bool false)),none⟩
def po(d x y:Nat):ah:=⟨some d,.pick (.t x) (.c (.bool true)) (.t y),none⟩
def fg(d t:Nat)(w:Bool)(o x:Nat):ah:=⟨some d,.fieldAddr o (.t x),some (t,w)⟩
def lg(d t:Nat)(w:Bool)(n x:Nat):ah:=⟨some d,.load n false (.t x),some (t,w)⟩
def ia(d:Nat)(z:List AV)(x y:Nat):ah:=⟨some d,.indexAddr z (.t x) (.t y),none⟩
def gB:List AV:=[.int .i64 0,.int .i64 0,.str [],.sl true 4 0 []]
def oG:List AV:=[.int .i64 0,.int .i64 0,.str [],.sl false 4 0 []]
def xM:List AV:=[.int .i64 0,.int .i64 0,.str [],.sl true 4 0 [],.bool false,.str []]
def Sk:List AV:=[.int .i64 0,.int .i64 0,.str [],.sl false 4 0 [],.bool false,.str []]
def A3:List AV:=[.int .i64 0,.int .i64 0,.int .i64 0,.int .i64 0,.int .i64 0,.str [],.sl true 4 0 [],.str []]
def SK:List AV:=[.int .i64 0,.sl true 1 0 [],.int .i64 0,.int .i64 0,.str [],.sl true 4 0 []]
def lZ:List AV:=[.int .i64 0]
def iw(d x:Nat):ah:=⟨some d,.ql (.t x),none⟩
def px(d n x y:Nat):ah:=⟨some d,.slice n (.t x) (some (.t y)) none none,none⟩
def Mz(d n x y:Nat):ah:=⟨some d,.slice n (.t x) none (some (.t y)) none,none⟩
def Q4(d n m x y:Nat):ah:=⟨some d,.append n m (.t x) (.t y),none⟩
def Sj(d f x y z w:Nat):ah:=⟨some d,.call f [.t x,.t y,.t z,.t w],none⟩
def qpk(d x y z:Nat):ah:=⟨some d,.pick (.t x) (.t y) (.t z),none⟩
def s6(d t:Nat)(w:Bool)(o:BinOp)(x y:Nat):ah:=⟨some d,.bin o (.t x) (.t y),some (t,w)⟩
def jx(d t:Nat)(w:Bool)(o:BinOp)(x:Nat)(n:Int):ah:=⟨some d,.bin o (.t x) (.c (.int .i64 n)),some (t,w)⟩
def Qa(d t:Nat)(w:Bool)(f x:Nat):ah:=⟨some d,.call f [.t x],some (t,w)⟩
def Un(d t:Nat)(w:Bool)(f x y:Nat):ah:=⟨some d,.call f [.t x,.t y],some (t,w)⟩
def ae(l:List ah)(v:List Nat)(k:IC):IC:=.seq (.bD none l v) k
attribute[go_sem] gB oG xM Sk A3 SK lZ iw px Mz Q4 Sj qpk s6 jx Qa Un ae fa ld lm cV mi c1 c2 c3 ex st bn bu bt nc le no pf po fg lg ia
end Go.AB
end
section
namespace Go.AB
open Go
theorem JU{S O:Type}{body:S→Option (S⊕O)}(I:S→Prop)(μ:S→Nat)(Post:O→Prop)
 (step:∀s,I s→∃x,body s=some x∧(match x with|.inl t=>I t∧μ t<μ s|.inr o=>Post o)):∀(n:Nat)(s:S),I s→μ s<n→∃o,cL body n s=some o∧Post o
 |0,_,_,h=>absurd h (Nat.not_lt_zero _)
 |n+1,s,hi,hn=>by
  obtain⟨x,hx,h⟩:=step s hi
  cases x with
  |inl t=>
   obtain⟨o,h1,h2⟩:=JU I μ Post step n t h.1 (by have:=h.2;omega)
   exact⟨o,by unfold cL;rw[hx];exact h1,h2⟩
  |inr o=>exact⟨o,by unfold cL;rw[hx],h⟩
theorem uw{S O:Type}{body:S→Option (S⊕O)}{s0:S}(I:S→Prop)(μ:S→Nat)(Post:O→Prop)(h0:I s0)(hμ:μ s0<18446744073709551616)
 (step:∀s,I s→∃x,body s=some x∧(match x with|.inl t=>I t∧μ t<μ s|.inr o=>Post o)):∃o,iter body s0=some o∧Post o:=
 JU I μ Post step _ s0 h0 hμ
theorem iter_eq{S O:Type}{body:S→Option (S⊕O)}{s0:S}{o:O}(I:S→Prop)(μ:S→Nat)(h0:I s0)(hμ:μ s0<18446744073709551616)
 (step:∀s,I s→(∃t,body s=some (.inl t)∧I t∧μ t<μ s)∨body s=some (.inr o)):iter body s0=some o:=by
 obtain⟨p,h1,h2⟩:=uw I μ (fun p=>p=o) h0 hμ fun s hs=>by
  rcases step s hs with⟨t,h1,h2⟩|h1
  ·exact⟨_,h1,h2⟩
  ·exact⟨_,h1,rfl⟩
 rw[h1,h2]
theorem aS{n:Int}(h1:-9223372036854775808≤n)(h2:n≤9223372036854775807):bz n=n:=by
 unfold bz IntKind.wrap
 have:(2^IntKind.i64.bits:Int)=18446744073709551616:=by decide
 have h3:(2^(IntKind.i64.bits -1):Int)=9223372036854775808:=by decide
 rw[this,h3]
 simp only[IntKind.signed,Bool.true_and,decide_eq_true_eq]
 split<;>omega
@[simp]theorem dt{α β:Type}(a:α)(f:α→Option β):aP (some a) f=f a:=rfl
theorem qm{α:Type}{c:Prop}[Decidable c](h:c)(o:Option α):aK c o=o:=if_pos h
@[simp]theorem wI{α:Type}(z:α)(o:Option α):fY true z o=o:=rfl
@[simp]theorem Rj{α:Type}(z:α)(o:Option α):fY false z o=some z:=rfl
theorem FL{α:Type}[aH α]{l:List α}{i:Int}(h:i.toNat<l.length):ix l i=l[i.toNat]:=by unfold ix;rw[List.getD_eq_getElem?_getD,List.getElem?_eq_getElem h];rfl
theorem hU{α:Type}[aH α]{l:List α}{k:Nat}(h:k<l.length):ix l (k:Int)=l[k]:=by rw[FL (by simpa using h)];simp
end Go.AB
end
section
set_option maxRecDepth 4000
namespace Go.AB
open Go
open Go.RowKit
theorem GU{w:World}{R:Nat→Nat}{a b:AV}{vs:Array Value}(h:kF w R [a,b] vs):∃v0 v1,vs= #[v0,v1]∧VR w R a v0∧VR w R b v1:=by
 obtain⟨hl,hr⟩:=h
 obtain⟨l⟩:=vs
 match l,hl with
 |[v0,v1],_=>exact⟨v0,v1,rfl,hr 0 _ _ rfl rfl,hr 1 _ _ rfl rfl⟩
 |[],hl=>simp at hl
 |[_],hl=>simp at hl
 |_::_::_::_,hl=>simp at hl
theorem Oq{w:World}{R:Nat→Nat}{a:AV}{vs:Array Value}(h:kF w R [a] vs):∃v0,vs= #[v0]∧VR w R a v0:=by
 obtain⟨hl,hr⟩:=h
 obtain⟨l⟩:=vs
 match l,hl with
 |[v0],_=>exact⟨v0,rfl,hr 0 _ _ rfl rfl⟩
 |[],hl=>simp at hl
 |_::_::_,hl=>simp at hl
theorem Dg(a:ByteArray)(c:Int)(w:World):Calls Go.Proofs.Tryz.prog 178 #[.string a,.int .u8 c] w fun e w'=>e=.returned (.int .i64 (Lib.indexByte a.data.toList c.toNat.toUInt8))∧w'=w:=by
 have mixed:=mix
 have t3:Go.Proofs.Tryz.prog.underlying 3=some (.int .i64):=by kernel_rfl
 have u3:=run_underlying t3
 go_enter Go.Proofs.Tryz.func178,(show Go.Proofs.Tryz.f178.ntmps=8 from rfl)
 go_wp2
 rw[run_callFunc_extern Go.Proofs.Tryz.func214 (by kernel_rfl) (by kernel_rfl) (by kernel_rfl) (e:=Extern.BytealgIndexByte.indexByte) (by kernel_rfl),Lib.run_indexByteString]
 simp only[Result.andThen]
 rw[Oper.upon_value]
 go_wp2
 go_ret
 exact⟨rfl,rfl⟩
def dP(s:aA)(c:UInt8):Option Int:=some (Lib.indexByte s.b c)
theorem pF{a:aA}{c:UInt8}{s:ab}{Q:List AV→ab→Prop}(h:ok (dP a c) fun r=>Q [.int .i64 r] s):FN Go.Proofs.Tryz.prog 178 [.str a.b,.int .u8 c.toNat] s Q:=by
 unfold dP at h
 rw[az]at h
 intro G w vs h1 h2 h3 h4
 obtain⟨v0,v1,rfl,k0,k1⟩:=GU h4
 rw[VR.dL k0,VR.bk k1]
 refine(Dg _ _ w).mono fun e w'⟨he,hw⟩=>?_
 subst hw
 refine⟨_,_,s,G,he,h,h1,h3,⟨?_,trivial⟩,ax.refl G w'⟩
 have e:((c.toNat:Int).toNat).toUInt8=c:=by simp
 rw[e]
 exact .int _ _
theorem pE{a:aA}{c:UInt8}{s:ab}{r:Int}(h:dP a c=some r):FE Go.Proofs.Tryz.prog 178 [.str a.b,.int .u8 c.toNat] s [.int .i64 r] s:=pF ⟨r,h,rfl,rfl⟩
theorem KW(a:ByteArray)(c:UInt8)(w:World):Calls Go.Proofs.Tryz.prog 351 #[.string a,.string ⟨#[c]⟩] w fun e w'=>e=.returned (.int .i64 (Lib.indexByte a.data.toList c))∧w'=w:=by
 have mixed:=mix
 have t3:Go.Proofs.Tryz.prog.underlying 3=some (.int .i64):=by kernel_rfl
 have u3:=run_underlying t3
 have t9:Go.Proofs.Tryz.prog.underlying 9=some .string:=by kernel_rfl
 have u9:=run_underlying t9
 go_enter Go.Proofs.Tryz.func351,(show Go.Proofs.Tryz.f351.ntmps=143 from rfl)
 go_wp2
 ·rename_i hc
  go_ret
  refine⟨?_,rfl⟩
  have e:a.toList=[c]:=(eq_of_beq hc).symm
  have e2:a.data.toList=[c]:=by
   obtain⟨⟨l⟩⟩:=a
   simpa using e
  rw[e2]
  simp[Lib.indexByte]
 ·rw[run_callFunc_extern Go.Proofs.Tryz.func214 (by kernel_rfl) (by kernel_rfl) (by kernel_rfl) (e:=Extern.BytealgIndexByte.indexByte) (by kernel_rfl),Lib.run_indexByteString]
  simp only[Result.andThen]
  rw[Oper.upon_value]
  go_wp2
  go_ret
  exact⟨rfl,rfl⟩
def fw(s sub:aA):Option Int:=aK (sub.b.length=1) (some (Lib.indexByte s.b (ix sub.b 0)))
theorem vN{a b:aA}{s:ab}{Q:List AV→ab→Prop}(h:ok (fw a b) fun r=>Q [.int .i64 r] s):FN Go.Proofs.Tryz.prog 351 [.str a.b,.str b.b] s Q:=by
 unfold fw at h
 rw[df,az]at h
 obtain⟨hl,h⟩:=h
 obtain⟨c,hc⟩:∃c,b.b=[c]:=List.length_eq_one_iff.1 hl
 rw[hc]at h⊢
 intro G w vs h1 h2 h3 h4
 obtain⟨v0,v1,rfl,k0,k1⟩:=GU h4
 rw[VR.dL k0,VR.dL k1]
 refine(KW _ c w).mono fun e w'⟨he,hw⟩=>?_
 subst hw
 exact⟨_,_,s,G,he,h,h1,h3,⟨.int _ _,trivial⟩,ax.refl G w'⟩
theorem vM{a b:aA}{s:ab}{r:Int}(h:fw a b=some r):FE Go.Proofs.Tryz.prog 351 [.str a.b,.str b.b] s [.int .i64 r] s:=vN ⟨r,h,rfl,rfl⟩
def lV(c:UInt8):Bool:=decide (48≤c.toNat)&&decide (c.toNat≤57)
theorem JV{G:Gh}{w:World}{s:ByteArray}{pos:Nat}(h:bM G w):bM (G.pJ w.heap.size .none 0) (w.iter s pos)∧ax G w (G.pJ w.heap.size .none 0) (w.iter s pos)∧(∀{st:ab},aL G w st→aL (G.pJ w.heap.size .none 0) (w.iter s pos) st):=by
 obtain⟨q1,q2,q3⟩:=fc h (.stringIter s pos) .none 0
 refine⟨q1,q2,fun hs=>hs.mono h q2 (fun b hb=>?_) (fun b c j _ hc=>?_)⟩
 ·obtain⟨k1,k2,k3⟩:=q3 b (by rw[hb];simp)
  exact⟨k1.trans hb,k2,k3⟩
 ·obtain⟨k1,k2,k3⟩:=q3 c (by rw[hc];simp)
  exact⟨k1.trans hc,k2,k3⟩
theorem QI(s:ByteArray)(pos:Nat)(h:pos<s.size):s.data.toList.drop pos=(s[pos]'h)::s.data.toList.drop (pos+1):=by
 have hl:pos<s.data.toList.length:=by simpa using h
 rw[List.drop_eq_getElem_cons hl]
 rfl
theorem Rm(s:ByteArray)(w:World){r:Bool}(hr:s.data.toList.all lV=r):Calls Go.Proofs.Tryz.prog 290 #[.string s] w fun e w'=>e=.returned (.bool r)∧∃pos,w'=w.iter s pos:=by
 have mixed:=mix
 have t3:Go.Proofs.Tryz.prog.underlying 3=some (.int .i64):=by kernel_rfl
 have u3:=run_underlying t3
 have t9:Go.Proofs.Tryz.prog.underlying 9=some .string:=by kernel_rfl
 have u9:=run_underlying t9
 go_enter Go.Proofs.Tryz.func290,(show Go.Proofs.Tryz.f290.ntmps=13 from rfl)
 go_wp2
 go_loopw [] (fun w'=>∃pos,w'=w.iter s pos∧(s.data.toList.drop pos).all lV=r) (fun w'=>s.size -w'.iterPos w.heap.size)
 case atStart=>exact⟨0,rfl,hr⟩
 case round=>
  obtain⟨pos,rfl,hall⟩:=hrel
  by_cases hp:pos<s.size
  ·rw[QI s pos hp,List.all_cons]at hall
   by_cases ha:(s[pos]'hp).toNat<128
   ·have hnx:∀ty,(Instr.next (.pointer (some ⟨w.heap.size,0,none⟩)) true ty).run Go.Proofs.Tryz.prog (w.iter s pos)=_:=fun ty=>run_next_ascii w s pos ty hp ha
    generalize(s[pos]'hp)=c at hnx hall ha
    go_wp2
    all_goals first
     |(go_ret
       have hc:lV c=false:=by unfold lV;simp;omega
       rw[hc]at hall
       rw[←hall]
       exact⟨rfl,_,rfl⟩)
     |(refine⟨⟨pos+1,rfl,?_⟩,by omega⟩
       have hc:lV c=true:=by unfold lV;simp;omega
       rw[hc,Bool.true_and]at hall
       exact hall)
   ·have hnx:∀ty,(Instr.next (.pointer (some ⟨w.heap.size,0,none⟩)) true ty).run Go.Proofs.Tryz.prog (w.iter s pos)=_:=fun ty=>run_next_any w s pos ty hp
    have hd:=(decode_high s pos hp (by omega)).1
    have hd2:=decode_le s pos
    have hc:lV (s[pos]'hp)=false:=by unfold lV;simp;omega
    rw[hc]at hall
    generalize(Utf8.decode s pos).1=d at hnx hd hd2
    go_wp2
    all_goals first
     |omega
     |(go_ret
       rw[←hall]
       exact⟨rfl,_,rfl⟩)
     |(exfalso;omega)
  ·have hnx:∀ty,(Instr.next (.pointer (some ⟨w.heap.size,0,none⟩)) true ty).run Go.Proofs.Tryz.prog (w.iter s pos)=_:=fun ty=>run_next_end w s pos ty hp
   rw[List.drop_eq_nil_of_le (by simpa using(by omega:s.size≤pos))]at hall
   go_wp2
   go_ret
   rw[←hall]
   exact⟨rfl,_,rfl⟩
def rA(s:aA):Option Bool:=some (s.b.all lV)
theorem PO{a:aA}{s:ab}{Q:List AV→ab→Prop}(h:ok (rA a) fun r=>Q [.bool r] s):FN Go.Proofs.Tryz.prog 290 [.str a.b] s Q:=by
 unfold rA at h
 rw[az]at h
 intro G w vs h1 h2 h3 h4
 obtain⟨v0,rfl,k0⟩:=Oq h4
 rw[VR.dL k0]
 refine(Rm ⟨a.b.toArray⟩ w (r:=a.b.all lV) (by simp)).mono fun e w'⟨he,pos,hw⟩=>?_
 subst hw
 obtain⟨q1,q2,q3⟩:=JV (s:=⟨a.b.toArray⟩) (pos:=pos) h1
 exact⟨_,_,s,_,he,h,q1,q3 h3,⟨.bool _,trivial⟩,q2⟩
theorem FZ{a:aA}{s:ab}{r:Bool}(h:rA a=some r):FE Go.Proofs.Tryz.prog 290 [.str a.b] s [.bool r] s:=PO ⟨r,h,rfl,rfl⟩
end Go.AB
end
section
set_option maxRecDepth 4000
namespace Go.AB
open Go Go.RowKit
def QH(st:Int×Bool)(c:UInt8):Int×Bool:=
 let pt:=st.2||decide (st.1>(2147483647 -((c.toNat:Int) -48)).tdiv 10)
 (if pt then st.1 else 10*st.1+((c.toNat:Int) -48),pt)
def MS:List UInt8→Int×Bool→Int×Int
 |[],st=>if st.2 then(0,5)else(st.1,0)
 |c::l,st=>if lV c then MS l (QH st c)else(0,11)
def A4(r:Int×Int)(l:List UInt8)(v4 v5:Value):Prop:=∃(n:Int)(pt:Bool),v4=.int .i64 n∧v5=.bool pt∧0≤n∧n≤2147483647∧MS l (n,pt)=r
theorem A4.step{r:Int×Int}{c:UInt8}{l:List UInt8}{n m:Int}{pt o:Bool}(hd:48≤(c.toNat:Int)∧(c.toNat:Int)≤57)(h0:0≤n)(h1:n≤2147483647)(h:MS l (QH (n,pt) c)=r)
 (ho:o=(pt||decide (n>(2147483647 -((c.toNat:Int) -48)).tdiv 10)))(hm:m=if o then n else 10*n+((c.toNat:Int) -48)):A4 r l (.int .i64 m) (.bool o):=by
 subst ho;subst hm
 refine⟨_,_,rfl,rfl,?_,?_,h⟩
 ·split<;>omega
 ·split
  ·omega
  ·rename_i hh
   have hh:¬n>(2147483647 -((c.toNat:Int) -48)).tdiv 10:=by simp at hh;omega
   rw[Int.tdiv_eq_ediv_of_nonneg (by omega)]at hh
   omega
theorem MT{c:Int}(hd:48≤c∧c≤57):((((2147483647 -(((c -48+2147483648)% 4294967296 -2147483648+9223372036854775808)% 18446744073709551616 -9223372036854775808)+9223372036854775808)% 18446744073709551616 -9223372036854775808).tdiv 10+9223372036854775808)% 18446744073709551616 -9223372036854775808)=(2147483647 -(c -48)).tdiv 10:=by
 have e1:((c -48+2147483648)% 4294967296 -2147483648+9223372036854775808)% 18446744073709551616 -9223372036854775808=c -48:=by omega
 rw[e1]
 have e2:(2147483647 -(c -48)+9223372036854775808)% 18446744073709551616 -9223372036854775808=2147483647 -(c -48):=by omega
 rw[e2,Int.tdiv_eq_ediv_of_nonneg (by omega)]
 omega
theorem Tk{c n:Int}(hd:48≤c∧c≤57)(h0:0≤n)(h1:n≤2147483647):((10*n+9223372036854775808)% 18446744073709551616 -9223372036854775808+(((c -48+2147483648)% 4294967296 -2147483648+9223372036854775808)% 18446744073709551616 -9223372036854775808)+9223372036854775808)% 18446744073709551616 -9223372036854775808=10*n+(c -48):=by omega
set_option maxHeartbeats 40000000 in
theorem KO(s:ByteArray)(w:World){r:Int×Int}(hr:(if s.data.toList=[]then(0,11)else MS s.data.toList (0,false))=r):Calls Go.Proofs.Tryz.prog 291 #[.string s] w fun e w'=>e=.returned (.tuple #[.int .i64 r.1,.int .i64 r.2])∧(w'=w∨∃pos,w'=w.iter s pos):=by
 have mixed:=mix
 have t3:Go.Proofs.Tryz.prog.underlying 3=some (.int .i64):=by kernel_rfl
 have u3:=run_underlying t3
 have t9:Go.Proofs.Tryz.prog.underlying 9=some .string:=by kernel_rfl
 have u9:=run_underlying t9
 go_enter Go.Proofs.Tryz.func291,(show Go.Proofs.Tryz.f291.ntmps=36 from rfl)
 go_wp2
 ·have hq:= ‹s.toList.isEmpty=true›
  have hc:s.data.toList=[]:=by
   obtain⟨⟨l⟩⟩:=s
   simpa using hq
  rw[if_pos hc]at hr
  subst hr
  go_ret2
  exact⟨rfl,.inl rfl⟩
 have hq:= ‹s.toList.isEmpty=false›
 have hc:s.data.toList≠[]:=by
  obtain⟨⟨l⟩⟩:=s
  simpa using hq
 rw[if_neg hc]at hr
 go_loopw [4,5] (fun v4 v5 w'=>∃(pos:Nat),w'=w.iter s pos∧A4 r (s.data.toList.drop pos) v4 v5) (fun _ _ w'=>s.size -w'.iterPos w.heap.size)
 case atStart=>exact⟨0,rfl,0,false,rfl,rfl,by omega,by omega,hr⟩
 case round=>
  obtain⟨pos,rfl,n,pt,rfl,rfl,hn0,hn1,hall⟩:=hrel
  by_cases hp:pos<s.size
  ·rw[QI s pos hp,MS]at hall
   by_cases ha:(s[pos]'hp).toNat<128
   ·have hnx:∀ty,(Instr.next (.pointer (some ⟨w.heap.size,0,none⟩)) true ty).run Go.Proofs.Tryz.prog (w.iter s pos)=_:=fun ty=>run_next_ascii w s pos ty hp ha
    generalize(s[pos]'hp)=c at hnx hall ha
    by_cases hdig:48≤(c.toNat:Int)∧(c.toNat:Int)≤57
    ·have hc:lV c=true:=by unfold lV;simp;omega
     rw[if_pos hc]at hall
     cases pt<;>go_wp2
     all_goals first
      |(exfalso;omega)
      |(refine⟨⟨_,_,_,_,⟨pos+1,rfl,?_⟩,rfl,rfl,rfl,rfl⟩,by omega⟩
        first
         |exact A4.step hdig hn0 hn1 hall rfl rfl
         |(have hx:= ‹(!decide (_<n))=true›
           simp only[Bool.not_eq_true']at hx
           refine A4.step hdig hn0 hn1 hall (by rw[MT hdig];rfl) ?_
           rw[hx]
           exact Tk hdig hn0 hn1)
         |(have hx:= ‹(!decide (_<n))=false›
           simp only[Bool.not_eq_false']at hx
           refine A4.step hdig hn0 hn1 hall (by rw[MT hdig];rfl) ?_
           rw[hx]
           rfl))
    ·have hc:lV c=false:=by unfold lV;simp;omega
     rw[hc]at hall
     have hall:((0:Int),(11:Int))=r:=hall
     subst hall
     cases pt<;>go_wp2
     all_goals first
      |(exfalso;omega)
      |(go_ret2
        exact⟨rfl,.inr ⟨_,rfl⟩⟩)
   ·have hnx:∀ty,(Instr.next (.pointer (some ⟨w.heap.size,0,none⟩)) true ty).run Go.Proofs.Tryz.prog (w.iter s pos)=_:=fun ty=>run_next_any w s pos ty hp
    have hd:=(decode_high s pos hp (by omega)).1
    have hd2:=decode_le s pos
    have hc:lV (s[pos]'hp)=false:=by unfold lV;simp;omega
    rw[hc]at hall
    have hall:((0:Int),(11:Int))=r:=hall
    subst hall
    generalize(Utf8.decode s pos).1=d at hnx hd hd2
    cases pt<;>go_wp2
    all_goals first
     |(exfalso;omega)
     |(go_ret2
       exact⟨rfl,.inr ⟨_,rfl⟩⟩)
  ·have hnx:∀ty,(Instr.next (.pointer (some ⟨w.heap.size,0,none⟩)) true ty).run Go.Proofs.Tryz.prog (w.iter s pos)=_:=fun ty=>run_next_end w s pos ty hp
   rw[List.drop_eq_nil_of_le (by simpa using(by omega:s.size≤pos))]at hall
   cases pt<;>go_wp2
   all_goals(go_ret2;subst hall;exact⟨rfl,.inr ⟨_,rfl⟩⟩)
def ry(s:aA):Option (Int×Int):=some (if s.b=[]then(0,11)else MS s.b (0,false))
theorem Ig{a:aA}{s:ab}{Q:List AV→ab→Prop}(h:ok (ry a) fun r=>Q [.int .i64 r.1,.int .i64 r.2] s):FN Go.Proofs.Tryz.prog 291 [.str a.b] s Q:=by
 unfold ry at h
 rw[az]at h
 intro G w vs h1 h2 h3 h4
 obtain⟨v0,rfl,k0⟩:=Oq h4
 rw[VR.dL k0]
 refine(KO ⟨a.b.toArray⟩ w (r:=if a.b=[]then(0,11)else MS a.b (0,false)) (by simp)).mono fun e w'⟨he,hw⟩=>?_
 generalize(if a.b=[]then((0:Int),(11:Int))else MS a.b (0,false))=r at h he
 have hres:∀(G':Gh)(w':World),nk G' w' [.int .i64 r.1,.int .i64 r.2] (.tuple #[.int .i64 r.1,.int .i64 r.2]):=fun G' w'=>⟨_,rfl,rfl,fun j x y hx hy=>by
  match j,hx,hy with
  |0,hx,hy=>injection hx with hx;injection hy with hy;subst hx;subst hy;exact⟨.int _ _,trivial⟩
  |1,hx,hy=>injection hx with hx;injection hy with hy;subst hx;subst hy;exact⟨.int _ _,trivial⟩
  |_+2,hx,_=>simp at hx⟩
 rcases hw with hw|⟨pos,hw⟩
 ·subst hw
  exact⟨_,_,s,G,he,h,h1,h3,hres _ _,ax.refl G w'⟩
 ·subst hw
  obtain⟨q1,q2,q3⟩:=JV (s:=⟨a.b.toArray⟩) (pos:=pos) h1
  exact⟨_,_,s,_,he,h,q1,q3 h3,hres _ _,q2⟩
theorem Ie{a:aA}{s:ab}{r:Int×Int}(h:ry a=some r):FE Go.Proofs.Tryz.prog 291 [.str a.b] s [.int .i64 r.1,.int .i64 r.2] s:=Ig ⟨r,h,rfl,rfl⟩
end Go.AB
end
section
set_option maxRecDepth 4000
namespace Go.AB
open Go
open Go.RowKit
theorem Oi{P:Program}(a:Addr)(cap:Nat)(c:Int)(w:World):(Extern.BytealgIndexByte.indexByte #[.slice (some a) 0 cap,.int .u8 c]).run P w=.ok (.int .i64 (-1)) w:=rfl
theorem ph{v:Value}{cv r:Int}{w:World}(hr:(Extern.BytealgIndexByte.indexByte #[v,.int .u8 cv]).run Go.Proofs.Tryz.prog w=.ok (.int .i64 r) w):Calls Go.Proofs.Tryz.prog 261 #[v,.int .u8 cv] w fun e w'=>e=.returned (.int .i64 r)∧w'=w:=by
 have mixed:=mix
 go_enter Go.Proofs.Tryz.func261,(show Go.Proofs.Tryz.f261.ntmps=8 from rfl)
 go_wp2
 rw[run_callFunc_extern Go.Proofs.Tryz.func296 (by kernel_rfl) (by kernel_rfl) (by kernel_rfl) (e:=Extern.BytealgIndexByte.indexByte) (by kernel_rfl),hr]
 simp only[Result.andThen]
 rw[Oper.upon_value]
 go_wp2
 go_ret
 exact⟨rfl,rfl⟩
theorem Ex:∀l:List UInt8,Lib.bytesOf (l.map fun c=>(c.toNat:Int))=l
 |[]=>rfl
 |c::l=>by
  have h:=Ex l
  unfold Lib.bytesOf at h⊢
  rw[List.map_cons,List.map_cons,h]
  congr 1
  simp
def gC(s:List UInt8)(c:UInt8):Option Int:=some (Lib.indexByte s c)
theorem yw{a:List UInt8}{c:UInt8}{s:ab}{Q:List AV→ab→Prop}(h:ok (gC a c) fun r=>Q [.int .i64 r] s):FN Go.Proofs.Tryz.prog 261 [.sl false 1 a.length (flat a),.int .u8 c.toNat] s Q:=by
 unfold gC at h
 rw[az]at h
 intro G w vs h1 h2 h3 h4
 obtain⟨v0,v1,rfl,k0,k1⟩:=GU h4
 rw[VR.bk k1]
 have ec:((c.toNat:Int).toNat).toUInt8=c:=by simp
 have fin:∀(e:Ending)(w':World)(r:Int),r=Lib.indexByte a c→e=.returned (.int .i64 r)∧w'=w→∃v rs s' G',e=.returned v∧Q rs s'∧bM G' w'∧aL G' w' s'∧nk G' w' rs v∧ax G w G' w':=by
  rintro e w' r hr ⟨he,hw⟩
  subst hw;subst hr
  exact⟨_,_,s,G,he,h,h1,h3,⟨.int _ _,trivial⟩,ax.refl G w'⟩
 have e0:∀b:List UInt8,a=[]→Lib.indexByte a c=-1:=fun _ e=>by subst e;rfl
 rcases VR.fA k0 with⟨(e|⟨_,ad,cap,e⟩),h0,_⟩|⟨b,off,cap,e,hcl,hRb,hcap,hat⟩
 ·subst e
  have ha:a=[]:=List.eq_nil_of_length_eq_zero h0
  exact(ph (Lib.run_indexByteNil w 0 0 _)).mono fun e w' hh=>fin e w' _ (e0 a ha).symm hh
 ·subst e
  have ha:a=[]:=List.eq_nil_of_length_eq_zero h0
  exact(ph (Oi ad cap _ w)).mono fun e w' hh=>fin e w' _ (e0 a ha).symm hh
 ·subst e
  obtain⟨u,u1,u2,_⟩:=hat
  have hcells:∀i,i<a.length→w.cell? ⟨b,off+i,none⟩=some (.int .u8 ((a.map fun c=>(c.toNat:Int)).getD i 0)):=by
   intro i hi
   have hfj:(flat a)[i]? =some (.int .u8 (a[i]).toNat):=by
    have hm:∀l:List UInt8,flat l=l.map fun c=>AV.int .u8 c.toNat:=fun l=>by
     induction l with
     |nil=>rfl
     |cons c l ih=>rw[List.map_cons,←ih];rfl
    rw[hm,List.getElem?_map,List.getElem?_eq_getElem hi];rfl
   rw[u1 i _ hfj,VR.bk (u2 i _ hfj)]
   simp[List.getD_eq_getElem?_getD,hi]
  refine(ph (Lib.run_indexByteSlice w b off a.length cap (a.map fun c=>(c.toNat:Int)) (by simp) hcells _)).mono fun e w' hh=>fin e w' _ ?_ hh
  rw[Ex,ec]
theorem yu{a:List UInt8}{c:UInt8}{s:ab}{r:Int}(h:gC a c=some r):FE Go.Proofs.Tryz.prog 261 [.sl false 1 a.length (flat a),.int .u8 c.toNat] s [.int .i64 r] s:=yw ⟨r,h,rfl,rfl⟩
end Go.AB
end
section
namespace Go.AB
open Go
end Go.AB
end
section
namespace Go.AB
open Go
attribute[go_sem] Nat.add_zero
@[go_sem]theorem bC{α:Type}(l:List α)(hi:Int):part l 0 hi=l.take hi.toNat:=by
  unfold part
  rw[Int.toNat_zero,List.drop_zero,Int.sub_zero]
@[go_sem]theorem afv(l:List UInt8):l.getD 0 0=ix l 0:=rfl
@[go_sem]theorem lf:((0:Int)≤0)=True:=eq_true (by decide)
@[go_sem]theorem agz:((0:Int)≤1)=True:=eq_true (by decide)
structure Ve where
 used:Bool
 own:Bool
 buf:aA
def Ve.zero:Ve:=⟨false,true,⟨[]⟩⟩
def pc(T B o:Nat)(b:Ve):AV:=bif b.used then .ref B o else .oe T
def pd(b:Ve):AV:=bif b.own then .bb 5 b.buf.b.length (flat b.buf.b)else .sl false 1 b.buf.b.length (flat b.buf.b)
@[go_sem]theorem aaw(T B o:Nat):pc T B o Ve.zero=.oe T:=rfl
@[go_sem]theorem aax:pd Ve.zero=.bb 5 0 []:=rfl
structure afp where
instance:aH afp:=⟨1,fun _=>[.wW],.mk,by decide,fun _=>rfl,fun _=>rfl⟩
theorem acU{X B:Prop}(h:X→B):X→(True→B):=fun x _=>h x
end Go.AB
end
section
set_option maxRecDepth 4000
namespace Go.AB
open Go
structure aa where
 Kind:Int
 N:Int
 S:aA
 L:(List aa)
mutual
def fZ:aa→List AV
 |⟨k,n,s,l⟩=>[.int .i64 k,.int .i64 n,.str s.b,.sl false 4 l.length (nr l)]
def nr:List aa→List AV
 |[]=>[]
 |v::l=>fZ v++nr l
end
theorem Ky(x:aa):views (fZ x)=fZ x:=by cases x;simp[fZ,views,view]
theorem Kx(x:aa):(fZ x).length=4:=by cases x;simp[fZ]
instance:aH aa:=⟨4,fZ,⟨0,0,⟨[]⟩,[]⟩,by decide,Kx,Ky⟩
theorem rR:∀l:List aa,nr l=flat l
 |[]=>by rw[nr];rfl
 |v::l=>by rw[nr,rR l];rfl
@[go_sem]theorem dI(x:aa):aH.cells x=[.int .i64 x.Kind,.int .i64 x.N,.str x.S.b,.sl false 4 x.L.length (flat x.L)]:=by
  cases x
  show fZ _=_
  rw[fZ,rR]
@[go_sem]theorem Yr:aH.w aa=4:=rfl
@[go_sem]theorem Ii(l:List aa)(i:Int):pad [.int .i64 0,.int .i64 0,.str [],.sl false 4 0 []] (views (AB.sub (flat l) (i.toNat*4) 4))=[.int .i64 ((ix l i).Kind),.int .i64 ((ix l i).N),.str ((ix l i).S).b,.sl false 4 ((ix l i).L).length (flat ((ix l i).L))]:=by rw[←dI];exact pT _ 4 l i (by rw[dI];rfl) rfl
attribute[-go_sem] bU cN bw bT
theorem af6{P:Program}{X:Prop}{deps:List (List Bool)}{ops f:List ah}{live:List Nat}{Q:Exit→St→Prop}{d:List Bool}{σ φ:St}
 (h1:∀Q':St→Prop,Q' φ→SF P deps ops (fun τ=>Q' (τ.yW live)) f d σ)(h2:X→Q .normal φ):X→SF P deps ops (uS live Q) f d σ:=fun x=>h1 (fun τ=>Q .normal τ) (h2 x)
@[go_sem]theorem agb:Nat.ble 1 1=true:=rfl
@[go_sem]theorem agc:Nat.ble 1 4=true:=rfl
@[go_sem]theorem agt{α:Type}[aH α](n:Nat)(l:List α)(hi:Int)(hn:n=aH.w α):AB.sub (flat l) 0 (hi.toNat*n)=flat (part l 0 hi):=by
  have:=wo n l 0 hi hn
  rwa[Int.sub_zero,show((0:Int).toNat*n)=0 from by simp]at this
@[go_sem]theorem acN{α:Type}[aH α](l:List α)(i:Int):ix l ((i.toNat:Nat):Int)=ix l i:=rfl
@[go_sem]theorem abi(l:List Int)(n:Nat):pad [.int .i64 0] (views (AB.sub (flat l) (n*1) 1))=[.int .i64 (ix l (n:Int))]:=V7 l n
theorem DX{P:Program}{f:FuncId}{as1 as2:List AV}{s:ab}{Q:List AV→ab→Prop}(e:as1=as2)(h:FN P f as1 s Q):FN P f as2 s Q:=e▸h
structure a8 where
 Kind:Int
 bI:Int
 To:Int
 V:aa
 S:aA
instance:aH a8:=⟨8,fun x=>[.int .i64 x.Kind,.int .i64 x.bI,.int .i64 x.To,.int .i64 x.V.Kind,.int .i64 x.V.N,.str x.V.S.b,.sl false 4 x.V.L.length (flat x.V.L),.str x.S.b],(a8.mk 0 0 0 (aa.mk 0 0 (aA.mk []) []) (aA.mk [])),by decide,fun _=>rfl,fun _=>rfl⟩
def iD(c_0:UInt8):Option (Bool):=some (((((((c_0.toNat:Int)==0)||((c_0.toNat:Int)==9))||((c_0.toNat:Int)==10))||((c_0.toNat:Int)==12))||((c_0.toNat:Int)==13))||((c_0.toNat:Int)==32))
def zT:IC:=
 (ae [cV 2 (.bool false)] [0]
 (ae [mv 3 0,bu 4 .eql 3 0,mv 5 4,c9 6 0 5 false,cS 7 5 false (.bin .eql (.t 6) (.c (.int .u8 9))),po 8 5 7,mv 9 8,c9 10 0 9 false,cS 11 9 false (.bin .eql (.t 10) (.c (.int .u8 10))),po 12 9 11,mv 13 12,c9 14 0 13 false,cS 15 13 false (.bin .eql (.t 14) (.c (.int .u8 12))),po 16 13 15,mv 17 16,c9 18 0 17 false,cS 19 17 false (.bin .eql (.t 18) (.c (.int .u8 13))),po 20 17 19,mv 21 20,c9 22 0 21 false,cS 23 21 false (.bin .eql (.t 22) (.c (.int .u8 32))),po 24 21 23,mv 2 24] [2]
 .ret))
def xV:List ay:=[⟨2,true,none⟩]
theorem K4:aC Go.Proofs.Tryz.prog 67 25 xV zT=true:=by kernel_rfl
theorem Lp{c_0}{s:ab}{Q:List AV→ab→Prop}:ok (iD c_0) (fun r=>Q [.bool r] s)→FN Go.Proofs.Tryz.prog 67 [.int .u8 c_0.toNat] s Q:=by
 intro h
 refine FN.of (af mix) K4 rfl (Nat.le_of_ble_eq_true rfl) ?_
 revert h
 rw[zT,xV,iD]
 repeat'(first
  |simp -implicitDefEqProofs only[go_sem,seval])
theorem ke{c_0}{s:ab}{r:Bool}(h:iD c_0=some r):FE Go.Proofs.Tryz.prog 67 [.int .u8 c_0.toNat] s [.bool r] s:=Lp ⟨r,h,rfl,rfl⟩
def uC(b_0:(List UInt8))(at_1:Int):Option (Int):=
 if decide (at_1<0)then
  none
 else
  iter (fun(at1:Int)=>
   if decide (at1<(b_0.length:Int))then
    aK (0≤at1∧at1<b_0.length)<|
    if((ix b_0 at1).toNat:Int)==37 then
     none
    else
     aP (iD (ix b_0 at1)) fun r3=>
     if !r3 then
      some (.inr at1)
     else
      some (.inl (bz (at1+1)))
   else
    none) at_1
def CI:IC:=
 (ae [mi 4 0] [0,1]
 (.seq (ae [mv 7 1,bn 8 .lss 7 0] [0,1,8]
 (.cond (.t 8) .dead
 .skip))
 (ae [cV 5 (.bool false)] [0,1,5]
 (.seq (.block 0 (.loop [(0,true),(1,false),(5,false)] (.seq (ae [mv 9 1,mv 10 0,le 11 0 10,bt 12 .lss 9 11] [0,1,5,12]
 (.cond (.t 12) .skip
 .dead))
 (.seq (.block 1 (ae [mv 15 0,mv 16 1,ia 17 [.int .u8 0] 15 16,ld 18 1 17,mv 6 18] [0,1,5,6]
 (.block 2 (ae [mv 20 5,mv 19 20] [0,1,5,6,19]
 (.cond (.t 19) .dead
 (ae [mv 28 6,bu 29 .eql 28 37,mv 27 29] [0,1,5,6,27]
 (.cond (.t 27) .dead
 (ae [mv 31 6,c1 32 67 31,no 33 32,mv 30 33] [0,1,5,30]
 (.cond (.t 30) (ae [mv 34 1,mv 4 34] [4]
 .ret)
 .skip)))))))))
 (.bD none [mv 13 1,bn 14 .add 13 1,mv 1 14] [0,1,5])))))
 .dead))))
def AK:List ay:=[⟨4,true,none⟩]
theorem Nv:aC Go.Proofs.Tryz.prog 179 37 AK CI=true:=by kernel_rfl
theorem NH{b_0 at_1}{s:ab}{Q:List AV→ab→Prop}:ok (uC b_0 at_1) (fun r=>Q [.int .i64 r] s)→FN Go.Proofs.Tryz.prog 179 [.sl false 1 b_0.length (flat b_0),.int .i64 at_1] s Q:=by
 intro h
 refine FN.of (af mix) Nv rfl (Nat.le_of_ble_eq_true rfl) ?_
 revert h
 rw[CI,AK,uC]
 repeat'(first
  |with_reducible exact cF
  |with_reducible refine acU ?_
  |with_reducible refine bj ?_ ?_
  |with_reducible refine cJ ?_
  |with_reducible refine ak (fun _(h:iD (ix b_0 at1)=some _)=>ke h) (fun r3=>?_)
  |((with_reducible refine bf (fun(at1:Int)=>⟨[(0,.sl false 1 b_0.length (flat b_0)),(1,.int .i64 at1),(5,.bool false)],[],s⟩) ?_ ?_);(first|exact rfl|simp -implicitDefEqProofs only[go_sem,seval]);rintro J at1)
  |simp -implicitDefEqProofs only[go_sem,seval])
theorem NG{b_0 at_1}{s:ab}{r:Int}(h:uC b_0 at_1=some r):FE Go.Proofs.Tryz.prog 179 [.sl false 1 b_0.length (flat b_0),.int .i64 at_1] s [.int .i64 r] s:=NH ⟨r,h,rfl,rfl⟩
structure cc where
 Builder:Ve
 b_:(List UInt8)
 at_:Int
 aZ:Bool
def fu(s_0:aA)(c_1:UInt8):Option (Int):=
 aP (dP s_0 c_1) fun r1=>
 some r1
def lU:IC:=
 (ae [mi 4 0] [0,1]
 (ae [mv 5 0,mv 6 1,c2 7 178 5 6,mv 4 7] [4]
 .ret))
def kV:List ay:=[⟨4,true,none⟩]
theorem ur:aC Go.Proofs.Tryz.prog 122 8 kV lU=true:=by kernel_rfl
theorem vL{s_0 c_1}{s:ab}{Q:List AV→ab→Prop}:ok (fu s_0 c_1) (fun r=>Q [.int .i64 r] s)→FN Go.Proofs.Tryz.prog 122 [.str s_0.b,.int .u8 c_1.toNat] s Q:=by
 intro h
 refine FN.of (af mix) ur rfl (Nat.le_of_ble_eq_true rfl) ?_
 revert h
 rw[lU,kV,fu]
 repeat'(first
  |with_reducible refine ak (fun _(h:dP s_0 c_1=some _)=>pE h) (fun r1=>?_)
  |simp -implicitDefEqProofs only[go_sem,seval])
theorem vK{s_0 c_1}{s:ab}{r:Int}(h:fu s_0 c_1=some r):FE Go.Proofs.Tryz.prog 122 [.str s_0.b,.int .u8 c_1.toNat] s [.int .i64 r] s:=vL ⟨r,h,rfl,rfl⟩
def ll(c_0:UInt8):Option (Bool):=
 aP (fu (aA.mk [40,41,60,62,91,93,123,125,47,37]) c_0) fun r1=>
 some (decide (r1≥0))
def zS:IC:=
 (ae [cV 2 (.bool false)] [0]
 (ae [mv 3 0,i1 4 (.call 122 [(.c (.str [40,41,60,62,91,93,123,125,47,37])),(.t 3)]),bn 5 .geq 4 0,mv 2 5] [2]
 .ret))
def xU:List ay:=[⟨2,true,none⟩]
theorem K3:aC Go.Proofs.Tryz.prog 68 6 xU zS=true:=by kernel_rfl
theorem Lo{c_0}{s:ab}{Q:List AV→ab→Prop}:ok (ll c_0) (fun r=>Q [.bool r] s)→FN Go.Proofs.Tryz.prog 68 [.int .u8 c_0.toNat] s Q:=by
 intro h
 refine FN.of (af mix) K3 rfl (Nat.le_of_ble_eq_true rfl) ?_
 revert h
 rw[zS,xU,ll]
 repeat'(first
  |with_reducible refine ak (fun _(h:fu (aA.mk [40,41,60,62,91,93,123,125,47,37]) c_0=some _)=>vK h) (fun r1=>?_)
  |simp -implicitDefEqProofs only[go_sem,seval])
theorem ru{c_0}{s:ab}{r:Bool}(h:ll c_0=some r):FE Go.Proofs.Tryz.prog 68 [.int .u8 c_0.toNat] s [.bool r] s:=Lo ⟨r,h,rfl,rfl⟩
def hZ(c_0:UInt8):Option (Bool):=
 aP (iD c_0) fun r1=>
 aP (fY (!r1) false (ll c_0)) fun r2=>
 some ((!r1)&&(!r2))
def tP:IC:=
 (ae [cV 2 (.bool false)] [0]
 (.seq (.bD (some 6) [mv 3 0,c1 4 67 3,no 5 4,mv 6 5,c9 7 0 6 true,Qa 8 6 true 68 7,cS 9 6 true (.un .not (.t 8)),pf 10 6 9,mv 2 10] [2])
 .ret))
def sC:List ay:=[⟨2,true,none⟩]
theorem Fq:aC Go.Proofs.Tryz.prog 215 11 sC tP=true:=by kernel_rfl
theorem FP{c_0}{s:ab}{Q:List AV→ab→Prop}:ok (hZ c_0) (fun r=>Q [.bool r] s)→FN Go.Proofs.Tryz.prog 215 [.int .u8 c_0.toNat] s Q:=by
 intro h
 refine FN.of (af mix) Fq rfl (Nat.le_of_ble_eq_true rfl) ?_
 revert h
 rw[tP,sC,hZ]
 repeat'(first
  |with_reducible refine bH (fun _(h:iD c_0=some _)=>ke h) (fun _=>rfl) (fun r1=>?_)
  |with_reducible refine dg rfl (fun _(h:ll c_0=some _)=>ru h) (fun _=>rfl) (fun r2=>?_)
  |simp -implicitDefEqProofs only[go_sem,seval])
theorem uE{c_0}{s:ab}{r:Bool}(h:hZ c_0=some r):FE Go.Proofs.Tryz.prog 215 [.int .u8 c_0.toNat] s [.bool r] s:=FP ⟨r,h,rfl,rfl⟩
def gN(s_0:cc):Option (aA×Bool×cc):=
 jn (
  iter (fun(o3:cc)=>
   aK ((decide (o3.at_<(o3.b_.length:Int)))=true→0≤o3.at_∧o3.at_<o3.b_.length)<|
   aP (fY (decide (o3.at_<(o3.b_.length:Int))) false (hZ (ix o3.b_ o3.at_))) fun r6=>
   if(decide (o3.at_<(o3.b_.length:Int)))&&r6 then
    some (.inl (cc.mk o3.Builder o3.b_ (bz (o3.at_+1)) o3.aZ))
   else
    some (.inr o3)) s_0) fun(o2:cc)=>
 aK (0≤s_0.at_∧s_0.at_≤o2.at_∧o2.at_≤o2.b_.length)<|
 some (aA.mk (part o2.b_ s_0.at_ o2.at_),(decide (o2.at_<(o2.b_.length:Int)))||o2.aZ,o2)
def pX:IC:=
 (ae [cV 2 (.str []),cV 3 (.bool false)] [0]
 (ae [mv 5 0,nc 6 5,fa 7 3 6,i1 8 (.aU lZ false (.t 7)),mv 4 8] [0,4]
 (.join [(0,false),(4,false)] (.block 0 (.loop [(0,false),(4,false)] (.seq (.seq (.bD (some 23) [mv 9 0,nc 10 9,fa 11 3 10,i1 12 (.aU lZ false (.t 11)),mv 13 0,nc 14 13,fa 15 2 14,i1 16 (.aU [.sl false 1 0 []] false (.t 15)),le 17 0 16,bt 18 .lss 12 17,mv 19 18,c9 20 0 19 true,cS 21 19 true (.nilCheck (.t 20)),fg 22 19 true 2 21,cS 23 19 true (.aU [.sl false 1 0 []] false (.t 22)),c9 24 0 19 true,cS 25 19 true (.nilCheck (.t 24)),fg 26 19 true 3 25,cS 27 19 true (.aU lZ false (.t 26)),cS 28 19 true (.indexAddr [.int .u8 0] (.t 23) (.t 27)),lg 29 19 true 1 28,Qa 30 19 true 215 29,pf 31 19 30] [0,4,31])
 (.cond (.t 31) .skip
 (.exit 0)))
 (.block 1 (.bD none [mv 32 0,nc 33 32,fa 34 3 33,i1 35 (.aU lZ false (.t 34)),bn 36 .add 35 1,nc 37 32,fa 38 3 37,st 1 38 36] [0,4])))))
 (.seq (.bD (some 29) [mv 39 0,nc 40 39,fa 41 2 40,i1 42 (.aU [.sl false 1 0 []] false (.t 41)),mv 43 4,mv 44 0,nc 45 44,fa 46 3 45,i1 47 (.aU lZ false (.t 46)),i1 48 (.slice 1 (.t 42) (some (.t 43)) (some (.t 47)) none),i1 49 (.eF (.t 48)),mv 50 0,nc 51 50,fa 52 3 51,i1 53 (.aU lZ false (.t 52)),mv 54 0,nc 55 54,fa 56 2 55,i1 57 (.aU [.sl false 1 0 []] false (.t 56)),le 58 0 57,bt 59 .lss 53 58,mv 60 59,c9 61 0 60 false,cS 62 60 false (.nilCheck (.t 61)),fg 63 60 false 4 62,cS 64 60 false (.aU [.bool false] false (.t 63)),po 65 60 64,mv 2 49,mv 3 65] [2,3])
 .ret))))
def oK:List ay:=[⟨2,true,none⟩,⟨3,true,none⟩]
theorem Bt:aC Go.Proofs.Tryz.prog 220 66 oK pX=true:=by kernel_rfl
theorem qj{s_0}{B0:Nat}{s:ab}{Q:List AV→ab→Prop}(hB0:s B0=some (.cells [pc 251 B0 0 s_0.Builder,pd s_0.Builder,.sl false 1 s_0.b_.length (flat s_0.b_),.int .i64 s_0.at_,.bool s_0.aZ])):ok (gN s_0) (fun r=>Q [.str r.1.b,.bool r.2.1] (s.set B0 (.cells [pc 251 B0 0 r.2.2.Builder,pd r.2.2.Builder,.sl false 1 r.2.2.b_.length (flat r.2.2.b_),.int .i64 r.2.2.at_,.bool r.2.2.aZ])))→FN Go.Proofs.Tryz.prog 220 [.ref B0 0] s Q:=by
 have hS:s=(s.set B0 (.cells [pc 251 B0 0 s_0.Builder,pd s_0.Builder,.sl false 1 s_0.b_.length (flat s_0.b_),.int .i64 s_0.at_,.bool s_0.aZ])):=by simp only[du hB0]
 rw[hS]
 intro h
 refine FN.of (af mix) Bt rfl (Nat.le_of_ble_eq_true rfl) ?_
 revert h
 rw[pX,oK,gN]
 repeat'(first
  |with_reducible exact cF
  |with_reducible refine bj ?_ ?_
  |with_reducible refine dg rfl (fun _(h:hZ (ix o3.b_ o3.at_)=some _)=>uE h) (fun _=>rfl) (fun r6=>?_)
  |((with_reducible refine bf (fun(o3:cc)=>⟨[(0,.ref B0 0),(4,.int .i64 s_0.at_)],[],(s.set B0 (.cells [pc 251 B0 0 o3.Builder,pd o3.Builder,.sl false 1 o3.b_.length (flat o3.b_),.int .i64 o3.at_,.bool o3.aZ]))⟩) ?_ ?_);(first|exact rfl|simp -implicitDefEqProofs only[go_sem,seval]);rintro J o3)
  |((with_reducible refine cH (fun(o2:cc)=>⟨[(0,.ref B0 0),(4,.int .i64 s_0.at_)],[],(s.set B0 (.cells [pc 251 B0 0 o2.Builder,pd o2.Builder,.sl false 1 o2.b_.length (flat o2.b_),.int .i64 o2.at_,.bool o2.aZ]))⟩) (fun J=>?_) ?_);rotate_left;rintro o2)
  |simp -implicitDefEqProofs only[go_sem,seval])
def cu(s_0:aA)(prefix_1:aA):Option (Bool):=
 aK ((decide ((s_0.b.length:Int)≥(prefix_1.b.length:Int)))=true→0≤(0:Int)∧0≤(prefix_1.b.length:Int)∧(prefix_1.b.length:Int)≤s_0.b.length)<|
 some ((decide ((s_0.b.length:Int)≥(prefix_1.b.length:Int)))&&((aA.mk (part s_0.b 0 (prefix_1.b.length:Int))).b==prefix_1.b))
def eW:IC:=
 (ae [cV 4 (.bool false)] [0,1]
 (ae [mv 5 0,le 6 1 5,mv 7 1,le 8 1 7,bt 9 .geq 6 8,mv 10 9,c9 11 0 10 true,c9 12 1 10 true,cS 13 10 true (.len 1 (.t 12)),cS 14 10 true (.pC (.t 11) none (some (.t 13))),c9 15 1 10 true,s6 16 10 true .eql 14 15,pf 17 10 16,mv 4 17] [4]
 .ret))
def eS:List ay:=[⟨4,true,none⟩]
theorem jT:aC Go.Proofs.Tryz.prog 324 18 eS eW=true:=by kernel_rfl
theorem jS{s_0 prefix_1}{s:ab}{Q:List AV→ab→Prop}:ok (cu s_0 prefix_1) (fun r=>Q [.bool r] s)→FN Go.Proofs.Tryz.prog 324 [.str s_0.b,.str prefix_1.b] s Q:=by
 intro h
 refine FN.of (af mix) jT rfl (Nat.le_of_ble_eq_true rfl) ?_
 revert h
 rw[eW,eS,cu]
 repeat'(first
  |simp -implicitDefEqProofs only[go_sem,seval])
theorem jR{s_0 prefix_1}{s:ab}{r:Bool}(h:cu s_0 prefix_1=some r):FE Go.Proofs.Tryz.prog 324 [.str s_0.b,.str prefix_1.b] s [.bool r] s:=jS ⟨r,h,rfl,rfl⟩
def dE(s_0:aA)(prefix_1:aA):Option (Bool):=
 aP (cu s_0 prefix_1) fun r1=>
 some r1
def lT:IC:=
 (ae [cV 4 (.bool false)] [0,1]
 (ae [mv 5 0,mv 6 1,c2 7 324 5 6,mv 4 7] [4]
 .ret))
def kU:List ay:=[⟨4,true,none⟩]
theorem uq:aC Go.Proofs.Tryz.prog 288 8 kU lT=true:=by kernel_rfl
theorem vJ{s_0 prefix_1}{s:ab}{Q:List AV→ab→Prop}:ok (dE s_0 prefix_1) (fun r=>Q [.bool r] s)→FN Go.Proofs.Tryz.prog 288 [.str s_0.b,.str prefix_1.b] s Q:=by
 intro h
 refine FN.of (af mix) uq rfl (Nat.le_of_ble_eq_true rfl) ?_
 revert h
 rw[lT,kU,dE]
 repeat'(first
  |with_reducible refine ak (fun _(h:cu s_0 prefix_1=some _)=>jR h) (fun r1=>?_)
  |simp -implicitDefEqProofs only[go_sem,seval])
theorem mf{s_0 prefix_1}{s:ab}{r:Bool}(h:dE s_0 prefix_1=some r):FE Go.Proofs.Tryz.prog 288 [.str s_0.b,.str prefix_1.b] s [.bool r] s:=vJ ⟨r,h,rfl,rfl⟩
def di(s_0:aA)(sep_1:aA):Option (aA×aA×Bool):=
 aP (fw s_0 sep_1) fun r1=>
 if decide (r1≥0)then
  none
 else
  some (s_0,(aA.mk []),false)
def gU:IC:=
 (ae [cV 4 (.str []),cV 5 (.str []),cV 6 (.bool false)] [0,1]
 (.seq (ae [mv 8 0,mv 9 1,c2 10 351 8 9,mv 7 10] [0,7]
 (ae [mv 11 7,bn 12 .geq 11 0] [0,12]
 (.cond (.t 12) .dead
 .skip)))
 (ae [mv 22 0,mv 4 22,cV 5 (.str []),cV 6 (.bool false)] [4,5,6]
 .ret)))
def gG:List ay:=[⟨4,true,none⟩,⟨5,true,none⟩,⟨6,true,none⟩]
theorem mS:aC Go.Proofs.Tryz.prog 325 23 gG gU=true:=by kernel_rfl
theorem mR{s_0 sep_1}{s:ab}{Q:List AV→ab→Prop}:ok (di s_0 sep_1) (fun r=>Q [.str r.1.b,.str r.2.1.b,.bool r.2.2] s)→FN Go.Proofs.Tryz.prog 325 [.str s_0.b,.str sep_1.b] s Q:=by
 intro h
 refine FN.of (af mix) mS rfl (Nat.le_of_ble_eq_true rfl) ?_
 revert h
 rw[gU,gG,di]
 repeat'(first
  |with_reducible refine ak (fun _(h:fw s_0 sep_1=some _)=>vM h) (fun r1=>?_)
  |simp -implicitDefEqProofs only[go_sem,seval])
theorem mQ{s_0 sep_1}{s:ab}{r:aA×aA×Bool}(h:di s_0 sep_1=some r):FE Go.Proofs.Tryz.prog 325 [.str s_0.b,.str sep_1.b] s [.str r.1.b,.str r.2.1.b,.bool r.2.2] s:=mR ⟨r,h,rfl,rfl⟩
def me(s_0:aA)(sep_1:aA):Option (aA×aA×Bool):=
 aP (di s_0 sep_1) fun r1=>
 some (r1.1,r1.2.1,r1.2.2)
def ud:IC:=
 (ae [cV 4 (.str []),cV 5 (.str []),cV 6 (.bool false)] [0,1]
 (ae [mv 7 0,mv 8 1,c2 9 325 7 8,ex 10 9 0,ex 11 9 1,ex 12 9 2,mv 4 10,mv 5 11,mv 6 12] [4,5,6]
 .ret))
def sO:List ay:=[⟨4,true,none⟩,⟨5,true,none⟩,⟨6,true,none⟩]
theorem FF:aC Go.Proofs.Tryz.prog 289 13 sO ud=true:=by kernel_rfl
theorem GW{s_0 sep_1}{s:ab}{Q:List AV→ab→Prop}:ok (me s_0 sep_1) (fun r=>Q [.str r.1.b,.str r.2.1.b,.bool r.2.2] s)→FN Go.Proofs.Tryz.prog 289 [.str s_0.b,.str sep_1.b] s Q:=by
 intro h
 refine FN.of (af mix) FF rfl (Nat.le_of_ble_eq_true rfl) ?_
 revert h
 rw[ud,sO,me]
 repeat'(first
  |with_reducible refine ak (fun _(h:di s_0 sep_1=some _)=>mQ h) (fun r1=>?_)
  |simp -implicitDefEqProofs only[go_sem,seval])
theorem GV{s_0 sep_1}{s:ab}{r:aA×aA×Bool}(h:me s_0 sep_1=some r):FE Go.Proofs.Tryz.prog 289 [.str s_0.b,.str sep_1.b] s [.str r.1.b,.str r.2.1.b,.bool r.2.2] s:=GW ⟨r,h,rfl,rfl⟩
def qn(s_0:aA):Option (aa×Int):=
 aP (dE s_0 (aA.mk [45])) fun r1=>
 if r1 then
  none
 else
  aP (dE s_0 (aA.mk [43])) fun r2=>
  if r2 then
   none
  else
   aP (me s_0 (aA.mk [46])) fun r3=>
   aP (fY (!((bz ((r3.1.b.length:Int)+(r3.2.1.b.length:Int)))==0)) false (rA r3.1)) fun r4=>
   aP (fY (!(((bz ((r3.1.b.length:Int)+(r3.2.1.b.length:Int)))==0)||(!r4))) false (rA r3.2.1)) fun r5=>
   if(((bz ((r3.1.b.length:Int)+(r3.2.1.b.length:Int)))==0)||(!r4))||(!r5)then
    none
   else
    aK ((((aA.mk [48]).b.length+r3.1.b.length:Nat):Int)≤rm)<|
    aP (ry (aA.mk ((aA.mk [48]).b++r3.1.b))) fun r6=>
    if r6.2 !=0 then
     none
    else
     if !r3.2.2 then
      some ((aa.mk 2 (bz (1*r6.1)) (aA.mk []) ([]:List aa)),0)
     else
      none
def zU:IC:=
 (ae [i1 2 (.aq gB),mi 3 0] [0,2]
 (ae [mi 4 1] [0,2,4]
 (ae [mv 12 0,mv 5 12] [0,2,4,5]
 (.seq (.block 0 (ae [mv 14 0,i1 15 (.call 288 [(.t 14),(.c (.str [45]))]),mv 13 15] [0,2,4,5,13]
 (.cond (.t 13) .dead
 (ae [mv 19 0,i1 20 (.call 288 [(.t 19),(.c (.str [43]))]),mv 18 20] [2,4,5,18]
 (.cond (.t 18) .dead
 .skip)))))
 (ae [mv 24 5,i1 25 (.call 289 [(.t 24),(.c (.str [46]))]),iw 23 25,ex 26 23 0,ex 27 23 1,ex 28 23 2,mv 6 26,mv 7 27,mv 8 28] [2,4,6,7,8]
 (.seq (.seq (.bD (some 14) [mv 29 6,le 30 1 29,mv 31 7,le 32 1 31,bt 33 .add 30 32,bn 34 .eql 33 0,mv 35 34,c9 36 6 35 false,Qa 37 35 false 290 36,cS 38 35 false (.un .not (.t 37)),po 39 35 38,mv 40 39,c9 41 7 40 false,Qa 42 40 false 290 41,cS 43 40 false (.un .not (.t 42)),po 44 40 43] [2,4,6,8,44])
 (.cond (.t 44) .dead
 .skip))
 (ae [mv 47 6,i1 48 (.bin .add (.c (.str [48])) (.t 47)),c1 49 291 48,iw 46 49,ex 50 46 0,ex 51 46 1,mv 9 50,mv 10 51] [2,4,8,9,10]
 (.seq (ae [mv 52 10,bn 53 .neq 52 0] [2,4,8,9,53]
 (.cond (.t 53) .dead
 .skip))
 (.seq (ae [mv 56 8,no 57 56] [2,4,9,57]
 (.cond (.t 57) (ae [mv 58 4,mv 59 9,bt 60 .mul 58 59,i1 61 (.build gB [(0,1,(.c (.int .i64 2))),(1,1,(.t 60))]),st 4 2 61,mi 3 0] [2,3]
 .ret)
 .dead))
 .dead)))))))))
def xW:List ay:=[⟨2,false,some (4,true)⟩,⟨3,true,none⟩]
theorem K5:aC Go.Proofs.Tryz.prog 252 75 xW zU=true:=by kernel_rfl
theorem Lw{s_0}{s:ab}{Q:List AV→ab→Prop}:ok (qn s_0) (fun r=>Q [.agg [.int .i64 r.1.Kind,.int .i64 r.1.N,.str r.1.S.b,.sl false 4 r.1.L.length (flat r.1.L)],.int .i64 r.2] s)→FN Go.Proofs.Tryz.prog 252 [.str s_0.b] s Q:=by
 intro h
 refine FN.of (af mix) K5 rfl (Nat.le_of_ble_eq_true rfl) ?_
 revert h
 rw[zU,xW,qn]
 repeat'(first
  |with_reducible exact cF
  |with_reducible refine bj ?_ ?_
  |with_reducible refine cJ ?_
  |with_reducible refine ak (fun _(h:dE s_0 (aA.mk [45])=some _)=>mf h) (fun r1=>?_)
  |with_reducible refine ak (fun _(h:dE s_0 (aA.mk [43])=some _)=>mf h) (fun r2=>?_)
  |with_reducible refine ak (fun _(h:me s_0 (aA.mk [46])=some _)=>GV h) (fun r3=>?_)
  |with_reducible refine dg rfl (fun _(h:rA r3.1=some _)=>FZ h) (fun _=>rfl) (fun r4=>?_)
  |with_reducible refine dg rfl (fun _(h:rA r3.2.1=some _)=>FZ h) (fun _=>rfl) (fun r5=>?_)
  |((fail_if_success (have _x:=r6));with_reducible refine ak (fun _ h=>Ie h) (fun r6=>?_))
  |simp -implicitDefEqProofs only[go_sem,seval])
theorem Lv{s_0}{s:ab}{r:aa×Int}(h:qn s_0=some r):FE Go.Proofs.Tryz.prog 252 [.str s_0.b] s [.agg [.int .i64 r.1.Kind,.int .i64 r.1.N,.str r.1.S.b,.sl false 4 r.1.L.length (flat r.1.L)],.int .i64 r.2] s:=Lw ⟨r,h,rfl,rfl⟩
def gV(s_0:cc):Option (a8×Int×cc):=
 aP (gN s_0) fun r1=>
 if !r1.2.1 then
  none
 else
  aK (0≤(0:Int)∧(0:Int)<r1.1.b.length)<|
  if((((decide (((ix r1.1.b 0).toNat:Int)≥48))&&(decide (((ix r1.1.b 0).toNat:Int)≤57)))||(((ix r1.1.b 0).toNat:Int)==43))||(((ix r1.1.b 0).toNat:Int)==45))||(((ix r1.1.b 0).toNat:Int)==46)then
   aP (qn r1.1) fun r2=>
   some ((a8.mk 1 0 0 r2.1 (aA.mk [])),r2.2,r1.2.2)
  else
   some ((a8.mk 6 0 0 (aa.mk 0 0 (aA.mk []) ([]:List aa)) r1.1),0,r1.2.2)
def lR:IC:=
 (ae [i1 2 (.aq A3),mi 3 0] [0,2]
 (ae [mv 10 0,c1 11 220 10,iw 9 11,ex 12 9 0,ex 13 9 1,mv 4 12,mv 5 13] [2,4,5]
 (.seq (ae [mv 14 5,no 15 14] [2,4,15]
 (.cond (.t 15) .dead
 .skip))
 (.seq (ae [mv 17 4,i1 18 (.gR (.t 17) (.c (.int .i64 0))),mv 6 18] [2,4,6]
 (ae [mv 19 6,bu 20 .geq 19 48,mv 21 20,c9 22 6 21 true,cS 23 21 true (.bin .leq (.t 22) (.c (.int .u8 57))),pf 24 21 23,mv 25 24,c9 26 6 25 false,cS 27 25 false (.bin .eql (.t 26) (.c (.int .u8 43))),po 28 25 27,mv 29 28,c9 30 6 29 false,cS 31 29 false (.bin .eql (.t 30) (.c (.int .u8 45))),po 32 29 31,mv 33 32,c9 34 6 33 false,cS 35 33 false (.bin .eql (.t 34) (.c (.int .u8 46))),po 36 33 35] [2,4,36]
 (.cond (.t 36) (ae [mv 38 4,c1 39 252 38,iw 37 39,ex 40 37 0,ex 41 37 1,i1 7 (.aq gB),st 4 7 40,mv 8 41] [2,7,8]
 (ae [lm 42 4 7,i1 43 (.build A3 [(0,1,(.c (.int .i64 1))),(3,4,(.t 42))]),mv 44 8,st 8 2 43,mv 3 44] [2,3]
 .ret))
 .skip)))
 (ae [mv 45 4,i1 46 (.build A3 [(0,1,(.c (.int .i64 6))),(7,1,(.t 45))]),st 8 2 46,mi 3 0] [2,3]
 .ret)))))
def kQ:List ay:=[⟨2,false,some (8,true)⟩,⟨3,true,none⟩]
theorem uk:aC Go.Proofs.Tryz.prog 216 47 kQ lR=true:=by kernel_rfl
theorem uF{s_0}{B0:Nat}{s:ab}{Q:List AV→ab→Prop}(hB0:s B0=some (.cells [pc 251 B0 0 s_0.Builder,pd s_0.Builder,.sl false 1 s_0.b_.length (flat s_0.b_),.int .i64 s_0.at_,.bool s_0.aZ])):ok (gV s_0) (fun r=>Q [.agg [.int .i64 r.1.Kind,.int .i64 r.1.bI,.int .i64 r.1.To,.int .i64 r.1.V.Kind,.int .i64 r.1.V.N,.str r.1.V.S.b,.sl false 4 r.1.V.L.length (flat r.1.V.L),.str r.1.S.b],.int .i64 r.2.1] (s.set B0 (.cells [pc 251 B0 0 r.2.2.Builder,pd r.2.2.Builder,.sl false 1 r.2.2.b_.length (flat r.2.2.b_),.int .i64 r.2.2.at_,.bool r.2.2.aZ])))→FN Go.Proofs.Tryz.prog 216 [.ref B0 0] s Q:=by
 have hS:s=(s.set B0 (.cells [pc 251 B0 0 s_0.Builder,pd s_0.Builder,.sl false 1 s_0.b_.length (flat s_0.b_),.int .i64 s_0.at_,.bool s_0.aZ])):=by simp only[du hB0]
 rw[hS]
 intro h
 refine FN.of (af mix) uk rfl (Nat.le_of_ble_eq_true rfl) ?_
 revert h
 rw[lR,kQ,gV]
 repeat'(first
  |with_reducible exact cF
  |with_reducible refine bj ?_ ?_
  |with_reducible refine cJ ?_
  |with_reducible refine fun hh=>qj (B0:=B0) (by simp -implicitDefEqProofs only[go_sem,seval]<;>simp only[bp]) (cq (show ok (gN s_0) _ from hh) fun r1=>?_)
  |with_reducible refine ak (fun _(h:qn r1.1=some _)=>Lv h) (fun r2=>?_)
  |simp -implicitDefEqProofs only[go_sem,seval])
def fB(s_0:cc):Option (UInt8×Bool):=
 if decide (s_0.at_≥(s_0.b_.length:Int))then
  none
 else
  aK (0≤s_0.at_∧s_0.at_<s_0.b_.length)<|
  some (ix s_0.b_ s_0.at_,true)
def pW:IC:=
 (ae [cV 2 (.int .u8 0),cV 3 (.bool false)] [0]
 (.seq (.seq (.bD (some 10) [mv 4 0,nc 5 4,fa 6 3 5,i1 7 (.aU lZ false (.t 6)),mv 8 0,nc 9 8,fa 10 2 9,i1 11 (.aU [.sl false 1 0 []] false (.t 10)),le 12 0 11,bt 13 .geq 7 12] [0,13])
 (.cond (.t 13) .dead
 .skip))
 (.seq (.bD (some 12) [mv 14 0,nc 15 14,fa 16 2 15,i1 17 (.aU [.sl false 1 0 []] false (.t 16)),mv 18 0,nc 19 18,fa 20 3 19,i1 21 (.aU lZ false (.t 20)),ia 22 [.int .u8 0] 17 21,ld 23 1 22,mv 2 23,cV 3 (.bool true)] [2,3])
 .ret)))
def oJ:List ay:=[⟨2,true,none⟩,⟨3,true,none⟩]
theorem Br:aC Go.Proofs.Tryz.prog 253 24 oJ pW=true:=by kernel_rfl
theorem BF{s_0}{B0:Nat}{s:ab}{Q:List AV→ab→Prop}(hB0:s B0=some (.cells [pc 251 B0 0 s_0.Builder,pd s_0.Builder,.sl false 1 s_0.b_.length (flat s_0.b_),.int .i64 s_0.at_,.bool s_0.aZ])):ok (fB s_0) (fun r=>Q [.int .u8 r.1.toNat,.bool r.2] s)→FN Go.Proofs.Tryz.prog 253 [.ref B0 0] s Q:=by
 have hS:s=(s.set B0 (.cells [pc 251 B0 0 s_0.Builder,pd s_0.Builder,.sl false 1 s_0.b_.length (flat s_0.b_),.int .i64 s_0.at_,.bool s_0.aZ])):=by simp only[du hB0]
 rw[hS]
 intro h
 refine FN.of (af mix) Br rfl (Nat.le_of_ble_eq_true rfl) ?_
 revert h
 rw[pW,oJ,fB]
 repeat'(first
  |simp -implicitDefEqProofs only[go_sem,seval])
theorem qi{s_0}{B0:Nat}{s:ab}{r:UInt8×Bool}(hB0:s B0=some (.cells [pc 251 B0 0 s_0.Builder,pd s_0.Builder,.sl false 1 s_0.b_.length (flat s_0.b_),.int .i64 s_0.at_,.bool s_0.aZ]))(h:fB s_0=some r):FE Go.Proofs.Tryz.prog 253 [.ref B0 0] s [.int .u8 r.1.toNat,.bool r.2] s:=BF hB0 ⟨r,h,rfl,rfl⟩
def iG(s_0:cc):Option (a8×Int×cc):=
 aP (fB s_0) fun r1=>
 if !r1.2 then
  none
 else
  if(r1.1.toNat:Int)==60 then
   some ((a8.mk 4 0 0 (aa.mk 0 0 (aA.mk []) ([]:List aa)) (aA.mk [])),0,(cc.mk s_0.Builder s_0.b_ (bz (s_0.at_+1)) s_0.aZ))
  else
   none
def mw:IC:=
 (ae [i1 2 (.aq A3),mi 3 0] [0,2]
 (ae [mv 9 0,c1 10 253 9,iw 8 10,ex 11 8 0,ex 12 8 1,mv 4 11,mv 5 12] [0,2,4,5]
 (.seq (ae [mv 13 5,no 14 13] [0,2,4,14]
 (.cond (.t 14) .dead
 .skip))
 (.seq (ae [mv 18 4,bu 19 .eql 18 60] [0,2,19]
 (.cond (.t 19) (ae [mv 20 0,nc 21 20,fa 22 3 21,i1 23 (.aU lZ false (.t 22)),bn 24 .add 23 1,nc 25 20,fa 26 3 25,st 1 26 24] [2]
 (ae [i1 27 (.build A3 [(0,1,(.c (.int .i64 4)))]),st 8 2 27,mi 3 0] [2,3]
 .ret))
 .dead))
 .dead))))
def l9:List ay:=[⟨2,false,some (8,true)⟩,⟨3,true,none⟩]
theorem wN:aC Go.Proofs.Tryz.prog 217 36 l9 mw=true:=by kernel_rfl
theorem wT{s_0}{B0:Nat}{s:ab}{Q:List AV→ab→Prop}(hB0:s B0=some (.cells [pc 251 B0 0 s_0.Builder,pd s_0.Builder,.sl false 1 s_0.b_.length (flat s_0.b_),.int .i64 s_0.at_,.bool s_0.aZ])):ok (iG s_0) (fun r=>Q [.agg [.int .i64 r.1.Kind,.int .i64 r.1.bI,.int .i64 r.1.To,.int .i64 r.1.V.Kind,.int .i64 r.1.V.N,.str r.1.V.S.b,.sl false 4 r.1.V.L.length (flat r.1.V.L),.str r.1.S.b],.int .i64 r.2.1] (s.set B0 (.cells [pc 251 B0 0 r.2.2.Builder,pd r.2.2.Builder,.sl false 1 r.2.2.b_.length (flat r.2.2.b_),.int .i64 r.2.2.at_,.bool r.2.2.aZ])))→FN Go.Proofs.Tryz.prog 217 [.ref B0 0] s Q:=by
 have hS:s=(s.set B0 (.cells [pc 251 B0 0 s_0.Builder,pd s_0.Builder,.sl false 1 s_0.b_.length (flat s_0.b_),.int .i64 s_0.at_,.bool s_0.aZ])):=by simp only[du hB0]
 rw[hS]
 intro h
 refine FN.of (af mix) wN rfl (Nat.le_of_ble_eq_true rfl) ?_
 revert h
 rw[mw,l9,iG]
 repeat'(first
  |with_reducible refine ak (fun _(h:fB s_0=some _)=>qi (B0:=B0) (by simp -implicitDefEqProofs only[go_sem,seval]<;>simp only[bp]) h) (fun r1=>?_)
  |simp -implicitDefEqProofs only[go_sem,seval])
def iE(s_0:cc):Option (a8×Int×cc):=
 aP (fB s_0) fun r1=>
 if(!r1.2)&&(!s_0.aZ)then
  none
 else
  if(!r1.2)||((r1.1.toNat:Int)!=62)then
   none
  else
   some ((a8.mk 5 0 0 (aa.mk 0 0 (aA.mk []) ([]:List aa)) (aA.mk [])),0,(cc.mk s_0.Builder s_0.b_ (bz (s_0.at_+1)) s_0.aZ))
def mr:IC:=
 (ae [i1 2 (.aq A3),mi 3 0] [0,2]
 (ae [mv 7 0,c1 8 253 7,iw 6 8,ex 9 6 0,ex 10 6 1,mv 4 9,mv 5 10] [0,2,4,5]
 (.seq (.block 0 (ae [mv 12 5,no 13 12,mv 14 13,c9 15 0 14 true,cS 16 14 true (.nilCheck (.t 15)),fg 17 14 true 4 16,cS 18 14 true (.aU [.bool false] false (.t 17)),cS 19 14 true (.un .not (.t 18)),pf 20 14 19,mv 11 20] [0,2,4,5,11]
 (.cond (.t 11) .dead
 (ae [mv 23 5,no 24 23,mv 25 24,c9 26 4 25 false,cS 27 25 false (.bin .neq (.t 26) (.c (.int .u8 62))),po 28 25 27,mv 22 28] [0,2,22]
 (.cond (.t 22) .dead
 .skip)))))
 (ae [mv 30 0,nc 31 30,fa 32 3 31,i1 33 (.aU lZ false (.t 32)),bn 34 .add 33 1,nc 35 30,fa 36 3 35,st 1 36 34] [2]
 (ae [i1 37 (.build A3 [(0,1,(.c (.int .i64 5)))]),st 8 2 37,mi 3 0] [2,3]
 .ret)))))
def l8:List ay:=[⟨2,false,some (8,true)⟩,⟨3,true,none⟩]
theorem wM:aC Go.Proofs.Tryz.prog 218 38 l8 mr=true:=by kernel_rfl
theorem wS{s_0}{B0:Nat}{s:ab}{Q:List AV→ab→Prop}(hB0:s B0=some (.cells [pc 251 B0 0 s_0.Builder,pd s_0.Builder,.sl false 1 s_0.b_.length (flat s_0.b_),.int .i64 s_0.at_,.bool s_0.aZ])):ok (iE s_0) (fun r=>Q [.agg [.int .i64 r.1.Kind,.int .i64 r.1.bI,.int .i64 r.1.To,.int .i64 r.1.V.Kind,.int .i64 r.1.V.N,.str r.1.V.S.b,.sl false 4 r.1.V.L.length (flat r.1.V.L),.str r.1.S.b],.int .i64 r.2.1] (s.set B0 (.cells [pc 251 B0 0 r.2.2.Builder,pd r.2.2.Builder,.sl false 1 r.2.2.b_.length (flat r.2.2.b_),.int .i64 r.2.2.at_,.bool r.2.2.aZ])))→FN Go.Proofs.Tryz.prog 218 [.ref B0 0] s Q:=by
 have hS:s=(s.set B0 (.cells [pc 251 B0 0 s_0.Builder,pd s_0.Builder,.sl false 1 s_0.b_.length (flat s_0.b_),.int .i64 s_0.at_,.bool s_0.aZ])):=by simp only[du hB0]
 rw[hS]
 intro h
 refine FN.of (af mix) wM rfl (Nat.le_of_ble_eq_true rfl) ?_
 revert h
 rw[mr,l8,iE]
 repeat'(first
  |with_reducible refine ak (fun _(h:fB s_0=some _)=>qi (B0:=B0) (by simp -implicitDefEqProofs only[go_sem,seval]<;>simp only[bp]) h) (fun r1=>?_)
  |simp -implicitDefEqProofs only[go_sem,seval])
def uD(w_0:aA):Option (aa×Int):=
 jn (
  iter (fun((out3,i4):(List UInt8)×Int)=>
   if decide (i4<(w_0.b.length:Int))then
    aK (0≤i4∧i4<w_0.b.length)<|
    if((ix w_0.b i4).toNat:Int)==35 then
     none
    else
     aK ((out3.length+[ix w_0.b i4].length)*1≤room)<|
     some (.inl (out3++[ix w_0.b i4],bz (i4+1)))
   else
    some (.inr out3)) (([]:List UInt8),0)) fun(out2:(List UInt8))=>
 aP (fY (!(decide ((out2.length:Int)>127))) 0 (gC out2 0)) fun r7=>
 if(decide ((out2.length:Int)>127))||(decide (r7≥0))then
  none
 else
  some ((aa.mk 5 0 (aA.mk out2) ([]:List aa)),0)
def CJ:IC:=
 (ae [i1 2 (.aq gB),mi 3 0] [0,2]
 (ae [i1 4 (.iR true (.c (.sl true 1 0 [])))] [0,2,4]
 (.join [(2,false),(4,false)] (ae [mi 5 0] [0,2,4,5]
 (.block 0 (.loop [(0,false),(2,false),(4,false),(5,false)] (.seq (ae [mv 7 5,mv 8 0,le 9 1 8,bt 10 .lss 7 9] [0,2,4,5,10]
 (.cond (.t 10) .skip
 (.exit 0)))
 (.seq (.block 1 (ae [mv 13 0,mv 14 5,i1 15 (.gR (.t 13) (.t 14)),mv 6 15] [0,2,4,5,6]
 (.seq (ae [mv 16 6,bu 17 .eql 16 35] [0,2,4,5,6,17]
 (.cond (.t 17) .dead
 .skip))
 (.bD none [mt 55 4,mv 56 6,i1 57 (.aY 1 1 [.int .u8 0] [(0,1,(.t 56))]),Q4 58 1 1 55 57,mt 4 58] [0,2,4,5]))))
 (.bD none [mv 11 5,bn 12 .add 11 1,mv 5 12] [0,2,4,5]))))))
 (.seq (.seq (.bD (some 6) [mv 59 4,le 60 0 59,bn 61 .gtr 60 127,mv 62 61,c9 63 4 62 false,cS 64 62 false (.call 261 [(.t 63),(.c (.int .u8 0))]),jx 65 62 false .geq 64 0,po 66 62 65] [2,4,66])
 (.cond (.t 66) .dead
 .skip))
 (ae [mt 68 4,i1 69 (.eF (.t 68)),i1 70 (.build gB [(0,1,(.c (.int .i64 5))),(2,1,(.t 69))]),st 4 2 70,mi 3 0] [2,3]
 .ret)))))
def AL:List ay:=[⟨2,false,some (4,true)⟩,⟨3,true,none⟩]
theorem Nw:aC Go.Proofs.Tryz.prog 221 71 AL CJ=true:=by kernel_rfl
theorem NJ{w_0}{s:ab}{Q:List AV→ab→Prop}:ok (uD w_0) (fun r=>Q [.agg [.int .i64 r.1.Kind,.int .i64 r.1.N,.str r.1.S.b,.sl false 4 r.1.L.length (flat r.1.L)],.int .i64 r.2] s)→FN Go.Proofs.Tryz.prog 221 [.str w_0.b] s Q:=by
 intro h
 refine FN.of (af mix) Nw rfl (Nat.le_of_ble_eq_true rfl) ?_
 revert h
 rw[CJ,AL,uD]
 repeat'(first
  |with_reducible refine dg rfl (fun _(h:gC out2 0=some _)=>(by refine jV ?_ (yu h);simp -implicitDefEqProofs only[go_sem,seval])) (fun _=>rfl) (fun r7=>?_)
  |((with_reducible refine bf (fun((out3,i4):(List UInt8)×Int)=>⟨[(0,.str w_0.b),(2,.loc [.int .i64 0,.int .i64 0,.str (aA.mk []).b,.sl true 4 0 []]),(4,.sl true 1 out3.length (flat out3)),(5,.int .i64 i4)],[],s⟩) ?_ ?_);(first|exact rfl|simp -implicitDefEqProofs only[go_sem,seval]);rintro J ⟨out3,i4⟩)
  |((with_reducible refine cH (fun(out2:(List UInt8))=>⟨[(2,.loc [.int .i64 0,.int .i64 0,.str (aA.mk []).b,.sl true 4 0 []]),(4,.sl true 1 out2.length (flat out2))],[],s⟩) (fun J=>?_) ?_);rotate_left;rintro out2)
  |simp -implicitDefEqProofs only[go_sem,seval])
theorem NI{w_0}{s:ab}{r:aa×Int}(h:uD w_0=some r):FE Go.Proofs.Tryz.prog 221 [.str w_0.b] s [.agg [.int .i64 r.1.Kind,.int .i64 r.1.N,.str r.1.S.b,.sl false 4 r.1.L.length (flat r.1.L)],.int .i64 r.2] s:=NJ ⟨r,h,rfl,rfl⟩
def kg(s_0:cc)(c_1:UInt8):Option (a8×Int×cc):=
 aP (hZ c_1) fun r1=>
 if r1 then
  aP (gV s_0) fun r2=>
  some (r2.1,r2.2.1,r2.2.2)
 else
  if(c_1.toNat:Int)==91 then
   some ((a8.mk 2 0 0 (aa.mk 0 0 (aA.mk []) ([]:List aa)) (aA.mk [])),0,(cc.mk s_0.Builder s_0.b_ (bz (s_0.at_+1)) s_0.aZ))
  else
   if(c_1.toNat:Int)==93 then
    some ((a8.mk 3 0 0 (aa.mk 0 0 (aA.mk []) ([]:List aa)) (aA.mk [])),0,(cc.mk s_0.Builder s_0.b_ (bz (s_0.at_+1)) s_0.aZ))
   else
    if(c_1.toNat:Int)==60 then
     aP (iG (cc.mk s_0.Builder s_0.b_ (bz (s_0.at_+1)) s_0.aZ)) fun r3=>
     some (r3.1,r3.2.1,r3.2.2)
    else
     if(c_1.toNat:Int)==62 then
      aP (iE (cc.mk s_0.Builder s_0.b_ (bz (s_0.at_+1)) s_0.aZ)) fun r4=>
      some (r4.1,r4.2.1,r4.2.2)
     else
      if(c_1.toNat:Int)==40 then
       none
      else
       if(c_1.toNat:Int)==47 then
        aP (gN (cc.mk s_0.Builder s_0.b_ (bz (s_0.at_+1)) s_0.aZ)) fun r5=>
        if !r5.2.1 then
         none
        else
         aP (uD r5.1) fun r6=>
         some ((a8.mk 1 0 0 r6.1 (aA.mk [])),r6.2,r5.2.2)
       else
        none
def oq:IC:=
 (ae [i1 4 (.aq A3),mi 5 0] [0,1,4]
 (.seq (ae [mv 12 1,c1 13 215 12] [0,1,4,13]
 (.cond (.t 13) (ae [mv 14 0,c1 15 216 14,ex 16 15 0,ex 17 15 1,st 8 4 16,mv 5 17] [4,5]
 .ret)
 .skip))
 (ae [mv 18 0,nc 19 18,fa 20 3 19,i1 21 (.aU lZ false (.t 20)),bn 22 .add 21 1,nc 23 18,fa 24 3 23,st 1 24 22] [0,1,4]
 (.seq (ae [mv 25 1] [0,4,25]
 (.block 0 (ae [bu 27 .eql 25 91,mv 26 27] [0,4,25,26]
 (.cond (.t 26) (ae [i1 28 (.build A3 [(0,1,(.c (.int .i64 2)))]),st 8 4 28,mi 5 0] [4,5]
 .ret)
 (ae [bu 30 .eql 25 93,mv 29 30] [0,4,25,29]
 (.cond (.t 29) (ae [i1 31 (.build A3 [(0,1,(.c (.int .i64 3)))]),st 8 4 31,mi 5 0] [4,5]
 .ret)
 (ae [bu 33 .eql 25 60,mv 32 33] [0,4,25,32]
 (.cond (.t 32) (ae [mv 34 0,c1 35 217 34,ex 36 35 0,ex 37 35 1,st 8 4 36,mv 5 37] [4,5]
 .ret)
 (ae [bu 39 .eql 25 62,mv 38 39] [0,4,25,38]
 (.cond (.t 38) (ae [mv 40 0,c1 41 218 40,ex 42 41 0,ex 43 41 1,st 8 4 42,mv 5 43] [4,5]
 .ret)
 (ae [bu 45 .eql 25 40,mv 44 45] [0,4,25,44]
 (.cond (.t 44) .dead
 (ae [bu 55 .eql 25 47,mv 54 55] [0,4,54]
 (.cond (.t 54) (ae [mv 57 0,c1 58 220 57,iw 56 58,ex 59 56 0,ex 60 56 1,mv 8 59,mv 9 60] [4,8,9]
 (.seq (ae [mv 61 9,no 62 61] [4,8,62]
 (.cond (.t 62) .dead
 .skip))
 (ae [mv 65 8,c1 66 221 65,iw 64 66,ex 67 64 0,ex 68 64 1,i1 10 (.aq gB),st 4 10 67,mv 11 68] [4,10,11]
 (ae [lm 69 4 10,i1 70 (.build A3 [(0,1,(.c (.int .i64 1))),(3,4,(.t 69))]),mv 71 11,st 8 4 70,mv 5 71] [4,5]
 .ret))))
 .dead))))))))))))))
 .dead))))
def nW:List ay:=[⟨4,false,some (8,true)⟩,⟨5,true,none⟩]
theorem Ak:aC Go.Proofs.Tryz.prog 180 73 nW oq=true:=by kernel_rfl
theorem An{s_0 c_1}{B0:Nat}{s:ab}{Q:List AV→ab→Prop}(hB0:s B0=some (.cells [pc 251 B0 0 s_0.Builder,pd s_0.Builder,.sl false 1 s_0.b_.length (flat s_0.b_),.int .i64 s_0.at_,.bool s_0.aZ])):ok (kg s_0 c_1) (fun r=>Q [.agg [.int .i64 r.1.Kind,.int .i64 r.1.bI,.int .i64 r.1.To,.int .i64 r.1.V.Kind,.int .i64 r.1.V.N,.str r.1.V.S.b,.sl false 4 r.1.V.L.length (flat r.1.V.L),.str r.1.S.b],.int .i64 r.2.1] (s.set B0 (.cells [pc 251 B0 0 r.2.2.Builder,pd r.2.2.Builder,.sl false 1 r.2.2.b_.length (flat r.2.2.b_),.int .i64 r.2.2.at_,.bool r.2.2.aZ])))→FN Go.Proofs.Tryz.prog 180 [.ref B0 0,.int .u8 c_1.toNat] s Q:=by
 have hS:s=(s.set B0 (.cells [pc 251 B0 0 s_0.Builder,pd s_0.Builder,.sl false 1 s_0.b_.length (flat s_0.b_),.int .i64 s_0.at_,.bool s_0.aZ])):=by simp only[du hB0]
 rw[hS]
 intro h
 refine FN.of (af mix) Ak rfl (Nat.le_of_ble_eq_true rfl) ?_
 revert h
 rw[oq,nW,kg]
 repeat'(first
  |with_reducible exact cF
  |with_reducible refine bj ?_ ?_
  |with_reducible refine cJ ?_
  |with_reducible refine ak (fun _(h:hZ c_1=some _)=>uE h) (fun r1=>?_)
  |with_reducible refine fun hh=>uF (B0:=B0) (by simp -implicitDefEqProofs only[go_sem,seval]<;>simp only[bp]) (cq (show ok (gV s_0) _ from hh) fun r2=>?_)
  |with_reducible refine fun hh=>wT (B0:=B0) (by simp -implicitDefEqProofs only[go_sem,seval]<;>simp only[bp]) (cq (show ok (iG (cc.mk s_0.Builder s_0.b_ (bz (s_0.at_+1)) s_0.aZ)) _ from hh) fun r3=>?_)
  |with_reducible refine fun hh=>wS (B0:=B0) (by simp -implicitDefEqProofs only[go_sem,seval]<;>simp only[bp]) (cq (show ok (iE (cc.mk s_0.Builder s_0.b_ (bz (s_0.at_+1)) s_0.aZ)) _ from hh) fun r4=>?_)
  |with_reducible refine fun hh=>qj (B0:=B0) (by simp -implicitDefEqProofs only[go_sem,seval]<;>simp only[bp]) (cq (show ok (gN (cc.mk s_0.Builder s_0.b_ (bz (s_0.at_+1)) s_0.aZ)) _ from hh) fun r5=>?_)
  |with_reducible refine ak (fun _(h:uD r5.1=some _)=>NI h) (fun r6=>?_)
  |simp -implicitDefEqProofs only[go_sem,seval])
def dB(b_0:(List UInt8))(at_1:Int)(last_2:Bool):Option (a8×Int):=
 if(decide (at_1<0))||(decide (at_1>(b_0.length:Int)))then
  none
 else
  aP (uC b_0 at_1) fun r1=>
  if r1==(b_0.length:Int)then
   none
  else
   aK (0≤r1∧r1<b_0.length)<|
   aP (kg (cc.mk Ve.zero b_0 r1 last_2) (ix b_0 r1)) fun r2=>
   if r2.2.1 !=0 then
    none
   else
    some ((a8.mk r2.1.Kind r1 r2.2.2.at_ r2.1.V r2.1.S),0)
def CH:IC:=
 (ae [i1 6 (.aq A3),mi 7 0] [0,1,2,6]
 (.seq (ae [mv 12 1,bn 13 .lss 12 0,mv 14 13,c9 15 1 14 false,c9 16 0 14 false,cS 17 14 false (.len 0 (.t 16)),s6 18 14 false .gtr 15 17,po 19 14 18] [0,1,2,6,19]
 (.cond (.t 19) .dead
 .skip))
 (ae [mv 21 0,mv 22 1,c2 23 179 21 22,mv 8 23] [0,2,6,8]
 (.seq (ae [mv 24 8,mv 25 0,le 26 0 25,bt 27 .eql 24 26] [0,2,6,8,27]
 (.cond (.t 27) .dead
 .skip))
 (ae [mv 35 0,mv 36 8,mv 37 2,i1 38 (.build [.dq,.bb 5 0 [],.sl true 1 0 [],.int .i64 0,.bool false] [(2,1,(.t 35)),(3,1,(.t 36)),(4,1,(.t 37))]),i1 39 (.KC 5 251 0 5 (.t 38)),mv 9 39] [0,6,8,9]
 (ae [mv 41 9,mt 42 0,mv 43 8,ia 44 [.int .u8 0] 42 43,ld 45 1 44,c2 46 180 41 45,iw 40 46,ex 47 40 0,ex 48 40 1,i1 10 (.aq A3),st 8 10 47,mv 11 48] [6,8,9,10,11]
 (.seq (ae [mv 49 11,bn 50 .neq 49 0] [6,8,9,10,50]
 (.cond (.t 50) .dead
 .skip))
 (.seq (.Sl [[false,false,false,false,false,false,false,false,false],[false,false,false,false,false,false,false,false,false],[false,true,false,false,false,false,false,false,false],[false,false,true,false,false,false,false,false,false],[false,false,false,true,false,false,false,false,false],[true,false,false,false,false,false,false,false,false],[true,false,false,false,false,true,false,false,false],[true,true,true,true,true,true,true,false,false],[true,true,true,true,true,true,true,true,false]] [mv 55 8,mv 56 9,nc 57 56,fa 58 3 57,i1 59 (.aU lZ false (.t 58)),fa 60 1 10,st 1 60 55,fa 61 2 10,st 1 61 59] [6,10])
 (ae [lm 62 8 10,st 8 6 62,mi 7 0] [6,7]
 .ret)))))))))
def AJ:List ay:=[⟨6,false,some (8,true)⟩,⟨7,true,none⟩]
theorem Nu:aC Go.Proofs.Tryz.prog 127 63 AJ CH=true:=by kernel_rfl
set_option maxHeartbeats 8000000 in
theorem NF{b_0 at_1 last_2}{s:ab}{Q:List AV→ab→Prop}:ok (dB b_0 at_1 last_2) (fun r=>Q [.agg [.int .i64 r.1.Kind,.int .i64 r.1.bI,.int .i64 r.1.To,.int .i64 r.1.V.Kind,.int .i64 r.1.V.N,.str r.1.V.S.b,.sl false 4 r.1.V.L.length (flat r.1.V.L),.str r.1.S.b],.int .i64 r.2] s)→FN Go.Proofs.Tryz.prog 127 [.sl false 1 b_0.length (flat b_0),.int .i64 at_1,.bool last_2] s Q:=by
 intro h
 refine FN.forget ?_
 refine FN.of (af mix) Nu rfl (Nat.le_of_ble_eq_true rfl) ?_
 revert h
 rw[CH,AJ,dB]
 repeat'(first
  |with_reducible exact cF
  |with_reducible refine bj ?_ ?_
  |with_reducible refine cJ ?_
  |((with_reducible apply af6);(·intro Q' hQ;repeat'(first|exact hQ|(simp only[cN,bU,bw,bT,A0,Cn,Bool.not_true,Bool.not_false,Bool.or_true,Bool.true_or,Bool.false_or,Bool.or_false,Bool.and_true,Bool.true_and,Bool.and_false,Bool.false_and,cond_true,cond_false,true_and,and_true];done)|with_reducible refine⟨?_,?_⟩|with_reducible exact trivial|simp only[cN,bU,bw,bT,A0,Cn,Bool.not_true,Bool.not_false,Bool.or_true,Bool.true_or,Bool.false_or,Bool.or_false,Bool.and_true,Bool.true_and,Bool.and_false,Bool.false_and,cond_true,cond_false,true_and,and_true]|simp -implicitDefEqProofs only[go_sem,seval])))
  |with_reducible refine ak (fun _(h:uC b_0 at_1=some _)=>NG h) (fun r1=>?_)
  |with_reducible refine fun hh=>An (B0:=N1) (by simp -implicitDefEqProofs only[go_sem,seval]<;>simp only[bp]) (cq (show ok (kg (cc.mk Ve.zero b_0 r1 last_2) (ix b_0 r1)) _ from hh) fun r2=>?_)
  |((fail_if_success (have _x:=sN1));with_reducible intro hh N1 hN1;(try simp only[cM]at hN1);have sN1:=hN1;revert hh)
  |with_reducible exact fun hh=>⟨_,jX.set (jX.refl _) (by simp[ab.set,sN1]),hh⟩
  |simp -implicitDefEqProofs only[go_sem,seval])
theorem jH{b_0 at_1 last_2}{s:ab}{r:a8×Int}(h:dB b_0 at_1 last_2=some r):FE Go.Proofs.Tryz.prog 127 [.sl false 1 b_0.length (flat b_0),.int .i64 at_1,.bool last_2] s [.agg [.int .i64 r.1.Kind,.int .i64 r.1.bI,.int .i64 r.1.To,.int .i64 r.1.V.Kind,.int .i64 r.1.V.N,.str r.1.V.S.b,.sl false 4 r.1.V.L.length (flat r.1.V.L),.str r.1.S.b],.int .i64 r.2] s:=NF ⟨r,h,rfl,rfl⟩
end Go.AB
end
