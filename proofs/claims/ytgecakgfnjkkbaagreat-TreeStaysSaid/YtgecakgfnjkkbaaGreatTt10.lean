/- A part. -/
import Derived.Test.YtgecakgfnjkkbaaGreatTt9
import Derived.Test.YtgecakgfnjkkbaaGreatProg
import Derived.KernelRfl
set_option linter.defProp false
set_option linter.unusedSimpArgs false
set_option linter.unusedVariables false
section
namespace Go.AB
open Go
theorem lV(a b:List AV):views (a++b)=views a++views b:=bY
theorem wy:∀l:List (List AV),(∀x∈l,views x=x)->views l.flatten=l.flatten
 |[],_=>rfl
 |a::l,h=>by rw[List.flatten_cons,lV,h a List.mem_cons_self,wy l fun x hx=>h x (List.mem_cons_of_mem _ hx)]
class aP(α:Type)where
 w:Nat
 cells:α->List AV
 zero:α
 pos:0<w
 len:∀x,(cells x).length=w
 vw:∀x,views (cells x)=cells x
structure aO where
 b:List UInt8
 deriving DecidableEq,Inhabited
section
variable{α:Type}[aP α]
def flat(l:List α):List AV:=(l.map aP.cells).flatten
def ix(l:List α)(i:Int):α:=l.getD i.toNat aP.zero
theorem ax:∀l:List α,(flat l).length=l.length*aP.w α
 |[]=>by simp[flat]
 |a::l=>by
  have:=ax l
  simp only[flat,List.map_cons,List.flatten_cons,List.length_append,aP.len]at this⊢
  rw[this,List.length_cons,Nat.add_mul,Nat.one_mul,Nat.add_comm]
@[go_sem]theorem qI:flat ([]:List α)=[]:=rfl
@[go_sem]theorem n9(a:α)(l:List α):flat (a::l)=aP.cells a++flat l:=rfl
@[go_sem]theorem c8(a b:List α):flat (a++b)=flat a++flat b:=by simp[flat]
@[go_sem]theorem aH(l:List α):views (flat l)=flat l:=wy _ fun x hx=>by
  obtain⟨y,_,rfl⟩:=List.mem_map.1 hx
  exact aP.vw y
theorem zx(l:List α):∀k,(flat l).drop (k*aP.w α)=flat (l.drop k):=by
 induction l with
 |nil=>intro k;simp[flat]
 |cons a l ih=>intro k;cases k with
  |zero=>simp
  |succ k=>
   rw[n9,List.drop_succ_cons,<-ih k,Nat.succ_mul,Nat.add_comm,<-List.drop_drop]
   congr 1
   rw[<-aP.len a,List.drop_left]
theorem uM(l:List α):∀k,(flat l).take (k*aP.w α)=flat (l.take k):=by
 induction l with
 |nil=>intro k;simp[flat]
 |cons a l ih=>intro k;cases k with
  |zero=>simp[qI]
  |succ k=>
   rw[n9,List.take_succ_cons,n9,<-ih k,Nat.succ_mul,Nat.add_comm,List.take_append]
   rw[aP.len a,List.take_of_length_le (by rw[aP.len];omega)]
   congr 2
   omega
theorem lG(l:List α)(n lo m:Nat)(hn:n=aP.w α):AB.sub (flat l) (lo*n) (m*n)=flat ((l.drop lo).take m):=by
 subst hn
 unfold AB.sub
 rw[zx,uM]
def qJ(z:List AV)(n:Nat)(l:List α)(i:Int)(hz:z=aP.cells (aP.zero:α))(hn:n=aP.w α):pad z (views (AB.sub (flat l) (i.toNat*n) n))=aP.cells (ix l i):=by
 subst hn
 have h1:AB.sub (flat l) (i.toNat*aP.w α) (aP.w α)=flat ((l.drop i.toNat).take 1):=by
  have:=lG l (aP.w α) i.toNat 1 rfl
  rwa[Nat.one_mul]at this
 rw[h1,aH]
 unfold pad ix
 rcases Nat.lt_or_ge i.toNat l.length with hlt|hge
 ·rw[List.drop_eq_getElem_cons hlt,List.take_succ_cons,List.take_zero,n9,qI,List.append_nil,hz,aP.len,aP.len,beq_self_eq_true]
  simp[List.getD,List.getElem?_eq_getElem hlt]
 ·rw[List.drop_eq_nil_of_le hge,List.take_nil,qI,hz,aP.len]
  have:(([]:List AV).length==aP.w α)=false:=by
   have:=aP.pos (α:=α)
   simp;omega
  rw[this]
  simp[List.getD,List.getElem?_eq_none hge]
def part(l:List α)(lo hi:Int):List α:=(l.drop lo.toNat).take (hi -lo).toNat
theorem Ge(n:Nat)(l:List α)(lo hi:Int)(hn:n=aP.w α):AB.sub (flat l) (lo.toNat*n) ((hi -lo).toNat*n)=flat (part l lo hi):=lG l n _ _ hn
theorem SL(n:Nat)(l:List α)(hn:n=aP.w α):(flat l).length/n=l.length:=by
 subst hn
 rw[ax];exact Nat.mul_div_cancel _ aP.pos
end
instance:aP Bool:=⟨1,fun b=>[.bool b],false,Nat.one_pos,fun _=>rfl,fun _=>rfl⟩
instance:aP Int:=⟨1,fun n=>[.int .i64 n],0,Nat.one_pos,fun _=>rfl,fun _=>rfl⟩
instance:aP UInt8:=⟨1,fun n=>[.int .u8 n.toNat],0,Nat.one_pos,fun _=>rfl,fun _=>rfl⟩
instance:aP UInt32:=⟨1,fun n=>[.int .u32 n.toNat],0,Nat.one_pos,fun _=>rfl,fun _=>rfl⟩
instance:aP UInt64:=⟨1,fun n=>[.int .u64 n.toNat],0,Nat.one_pos,fun _=>rfl,fun _=>rfl⟩
instance:aP aO:=⟨1,fun s=>[.str s.b],⟨[]⟩,Nat.one_pos,fun _=>rfl,fun _=>rfl⟩
instance{α:Type}[aP α]:aP (List α):=⟨1,fun l=>[.sl false (aP.w α) l.length (flat l)],[],Nat.one_pos,fun _=>rfl,fun _=>rfl⟩
@[go_sem]theorem adK(x:Int):aP.cells x=[.int .i64 x]:=rfl
@[go_sem]theorem afl(x:UInt8):aP.cells x=[.int .u8 x.toNat]:=rfl
@[go_sem]theorem adL(x:aO):aP.cells x=[.str x.b]:=rfl
@[go_sem]theorem alD:aP.w Int=1:=rfl
@[go_sem]theorem amf:aP.w UInt8=1:=rfl
@[go_sem]theorem Ps(l:List Int)(i:Int):pad [.int .i64 0] (views (AB.sub (flat l) (i.toNat*1) 1))=[.int .i64 (ix l i)]:=qJ _ 1 l i rfl rfl
@[go_sem]theorem UA(l:List UInt8)(i:Int):pad [.int .u8 0] (views (AB.sub (flat l) (i.toNat*1) 1))=[.int .u8 (ix l i).toNat]:=qJ _ 1 l i rfl rfl
@[go_sem]theorem ais(l:List aO)(i:Int):pad [.str []] (views (AB.sub (flat l) (i.toNat*1) 1))=[.str (ix l i).b]:=qJ _ 1 l i rfl rfl
def ok{α:Type}(o:Option α)(K:α->Prop):Prop:=∃a,o=some a/\K a
def a8{α:Type}(c:Prop)[Decidable c](o:Option α):Option α:=if c then o else none
def jA{α:Type}(g:Bool)(z:α)(o:Option α):Option α:=bif g then o else some z
def aQ{α β:Type}(o:Option α)(f:α->Option β):Option β:=match o with
 |some a=>f a
 |none=>none
def cC{S O:Type}(body:S->Option (S⊕O)):Nat->S->Option O
 |0,_=>none
 |n+1,s=>match body s with
  |none=>none
  |some (.inl t)=>cC body n t
  |some (.inr o)=>some o
def iter{S O:Type}(body:S->Option (S⊕O))(s:S):Option O:=cC body 18446744073709551616 s
def eY{A B C:Type}(f:A->C)(g:B->C):A⊕B->C
 |.inl a=>f a
 |.inr b=>g b
section
variable{α β:Type}(K:α->Prop)
@[go_sem]theorem bJ(a:α):ok (some a) K=K a:=by simp[ok]
@[go_sem]theorem ok_none:ok none K=False:=by simp[ok]
@[go_sem]theorem fO(c:Prop)[Decidable c](o:Option α):ok (a8 c o) K=(c/\ok o K):=by grind [a8,ok]
@[go_sem]theorem jN(o:Option β)(f:β->Option α):ok (aQ o f) K=ok o (fun b=>ok (f b) K):=by cases o<;>simp[aQ,ok]
@[go_sem]theorem Du(c:Bool)(a b:Option α):ok (if c=true then a else b) K=((c=true->ok a K)/\(c=false->ok b K)):=A_
theorem XM(g:Bool)(z:α)(o:Option α):ok (jA g z o) K=∃a,(g=true->o=some a)/\(g=false->a=z)/\K a:=by grind [jA,ok]
@[go_sem]theorem nG{A B C:Type}(f:A->C)(g:B->C)(a:A):eY f g (.inl a)=f a:=rfl
@[go_sem]theorem xR{A B C:Type}(f:A->C)(g:B->C)(b:B):eY f g (.inr b)=g b:=rfl
end
def b8{A B C D:Prop}(h:A->C)(k:B->D):A/\B->C/\D:=fun x=>⟨h x.1,k x.2⟩
def dv{p A B:Prop}(h:A->B):(p->A)->p->B:=fun x y=>h (x y)
def dm{A:Prop}:A->A:=fun h=>h
variable{P:Program}
def au{β:Type}{o:Option β}{kf:β->Prop}{f:FuncId}{as1:List AV}{s:ae}{enc:β->List AV}{Q:List AV->ae->Prop}
 (hf:∀r,o=some r->FE P f as1 s (enc r) s)(hk:∀r,kf r->Q (enc r) s):ok o kf->FN P f as1 s Q:=fun⟨r,h,k⟩=>FE.app (hf r h) (hk r k)
def c9{β:Type}{o:Option β}{kf:β->Prop}{f:FuncId}{as1:List AV}{s:ae}{enc:β->List AV}{Q:List AV->Prop}
 (hf:∀r,o=some r->FE P f as1 s (enc r) s)(hr:∀r,ke (enc r)=true)(hk:∀r,kf r->Q (enc r)):ok o kf->∃rs,ke rs=true/\FE P f as1 s rs s/\Q rs:=
 fun⟨r,h,k⟩=>⟨enc r,hr r,hf r h,hk r k⟩
def jo{β:Type}{g:Bool}{z:β}{o:Option β}{kf:β->Prop}{f:FuncId}{as1:Option (List AV)}{as2:List AV}{s:ae}{enc:β->List AV}{Q:List AV->Prop}
 (ha:as1=some as2)(hf:∀r,o=some r->FE P f as2 s (enc r) s)(hr:∀r,ke (enc r)=true)(hk:∀r,kf r->Q (enc r)):
 ok (jA g z o) kf->∃rs,ke rs=true/\(g=true->∃as2,as1=some as2/\FE P f as2 s rs s)/\Q rs:=fun h=>by
 grind [XM]
def okj{α:Type}(o:Option α)(K:α->Prop):Prop:=ok o K
def jn{α β:Type}(o:Option α)(f:α->Option β):Option β:=aQ o f
@[go_sem]theorem alm{α β:Type}(K:α->Prop)(o:Option β)(f:β->Option α):ok (jn o f) K=okj o (fun b=>ok (f b) K):=jN ..
def dZ{X:Type}{M:Option X}{kf:X->Prop}{live:List (Nat×Bool)}{a b:IC}{Q:Exit->St->Prop}{E:St}(enc:X->St)
 (ha:∀J:St->Prop,ok M (fun x=>J (enc x))->fW P a (pK live J Q) E)(hb:∀x,kf x->fW P b Q (enc x)):okj M kf->fW P (.join live a b) Q E:=fun⟨x,h,k⟩=>
 ⟨fun τ=>∃x,τ=enc x/\kf x,ha _ ⟨x,h,x,rfl,k⟩,fun _⟨x,e,k⟩=>e▸hb x k⟩
theorem sf{S O:Type}{body:S->Option (S⊕O)}{s:S}{K:O->Prop}:¬ok (cC body 0 s) K:=fun⟨_,h,_⟩=>F_
def se{S O:Type}{body:S->Option (S⊕O)}{n:Nat}{s:S}{K:O->Prop}(h:ok (cC body (n+1) s) K):ok (body s) (eY (fun t=>ok (cC body n t) K) K):=by
 obtain⟨o,h,k⟩:=h
 unfold cC at h
 cases hb:body s with
 |none=>grind
 |some x=>
  rw[hb]at h
  cases x with
  |inl t=>exact⟨_,rfl,⟨o,h,k⟩⟩
  |inr o'=>cases h;exact⟨_,rfl,k⟩
theorem xh{live:List (Nat×Bool)}{I:St->Prop}{μ:St->Nat}{m:Nat}{Q:Exit->St->Prop}:GH live I μ m Q=pK live (fun ρ=>I ρ/\μ ρ<m) Q:=D_
def cX{S O:Type}{body:S->Option (S⊕O)}{s0:S}{kf:O->Prop}{live:List (Nat×Bool)}{b:IC}{Q:Exit->St->Prop}{E:St}(enc:S->St)
 (h0:E.fu live=enc s0)
 (hb:∀(J:St->Prop)(s:S),ok (body s) (eY (fun t=>J (enc t)) kf)->fW P b (pK live J Q) (enc s)):ok (iter body s0) kf->fW P (.loop live b) Q E:=by
 intro h
 have yl:∀τ,(∃m s,τ=enc s/\ok (cC body m s) kf)->∃m,(∃s,τ=enc s/\ok (cC body m s) kf)/\∀k,k<m->¬∃s,τ=enc s/\ok (cC body k s) kf:=by
  rintro τ ⟨m,s,h⟩
  induction m using Nat.strongRecOn generalizing s with
  |_ m ih=>grind
 have hμ:∃μ:St->Nat,∀τ,(∃m s,τ=enc s/\ok (cC body m s) kf)->(∃s,τ=enc s/\ok (cC body (μ τ) s) kf)/\∀k,k<μ τ->¬∃s,τ=enc s/\ok (cC body k s) kf:=by exact⟨fun τ=>Classical.epsilon fun m=>(∃s,τ=enc s/\ok (cC body m s) kf)/\∀k,k<m->¬∃s,τ=enc s/\ok (cC body k s) kf,fun τ hτ=>Classical.epsilon_spec (yl τ hτ)⟩
 obtain⟨μ,hμ⟩:=hμ
 refine⟨fun τ=>∃m s,τ=enc s/\ok (cC body m s) kf,μ,?_,?_⟩
 ·exact⟨_,s0,h0,h⟩
 ·intro τ hτ
  obtain⟨⟨s,e,hs⟩,_⟩:=hμ τ hτ
  generalize hm:μ τ=m at hs
  cases m with
  |zero=>grind [sf]
  |succ m=>
   subst e
   rw[xh]
   obtain⟨x,hx,k⟩:=se hs
   refine hb _ s ⟨x,hx,?_⟩
   cases x with
   |inr o=>exact k
   |inl t=>
    refine⟨⟨m,t,rfl,k⟩,?_⟩
    have h2:=(hμ (enc t) ⟨m,t,rfl,k⟩).2
    rcases Nat.lt_or_ge m (μ (enc t))with hlt|hge
    ·exact(h2 m hlt ⟨t,rfl,k⟩).elim
    ·omega
def yy{S O:Type}{body:S->Option (S⊕O)}{s0:S}{kf:O->Prop}{live:List (Nat×Bool)}{l:Nat}{r:IC}{Q:Exit->St->Prop}{E:St}(enc:S->St)
 (h0:E=enc s0)
 (hb:∀(J:St->Prop)(s:S),ok (body s) (eY (fun t=>J (enc t)) kf)->fW P r (It l live J Q) (enc s)):ok (iter body s0) kf->VV P l live r Q E:=by
 intro h
 have yl:∀τ,(∃m s,τ=enc s/\ok (cC body m s) kf)->∃m,(∃s,τ=enc s/\ok (cC body m s) kf)/\∀k,k<m->¬∃s,τ=enc s/\ok (cC body k s) kf:=by
  rintro τ ⟨m,s,h⟩
  induction m using Nat.strongRecOn generalizing s with
  |_ m ih=>grind
 have hμ:∃μ:St->Nat,∀τ,(∃m s,τ=enc s/\ok (cC body m s) kf)->(∃s,τ=enc s/\ok (cC body (μ τ) s) kf)/\∀k,k<μ τ->¬∃s,τ=enc s/\ok (cC body k s) kf:=by exact⟨fun τ=>Classical.epsilon fun m=>(∃s,τ=enc s/\ok (cC body m s) kf)/\∀k,k<m->¬∃s,τ=enc s/\ok (cC body k s) kf,fun τ hτ=>Classical.epsilon_spec (yl τ hτ)⟩
 obtain⟨μ,hμ⟩:=hμ
 refine⟨fun τ=>∃m s,τ=enc s/\ok (cC body m s) kf,μ,?_,?_⟩
 ·exact⟨_,s0,h0,h⟩
 ·intro τ hτ
  obtain⟨⟨s,e,hs⟩,_⟩:=hμ τ hτ
  generalize hm:μ τ=m at hs
  cases m with
  |zero=>grind [sf]
  |succ m=>
   subst e
   obtain⟨x,hx,k⟩:=se hs
   refine hb _ s ⟨x,hx,?_⟩
   cases x with
   |inr o=>exact k
   |inl t=>
    refine⟨⟨m,t,rfl,k⟩,?_⟩
    have h2:=(hμ (enc t) ⟨m,t,rfl,k⟩).2
    rcases Nat.lt_or_ge m (μ (enc t))with hlt|hge
    ·exact(h2 m hlt ⟨t,rfl,k⟩).elim
    ·omega
def nE{X Y α:Type}(M:Option (X⊕Y))(F:X->Option α)(G:Y->Option α):Option α:=match M with
 |some (.inl x)=>F x
 |some (.inr y)=>G y
 |none=>none
@[go_sem]theorem XL{X Y α:Type}(M:Option (X⊕Y))(F:X->Option α)(G:Y->Option α)(K:α->Prop):ok (nE M F G) K=ok M (eY (fun x=>ok (F x) K) (fun y=>ok (G y) K)):=by
  cases M with
  |none=>simp[nE,ok]
  |some x=>grind [nE,ok,eY]
def yx{X Y α:Type}(M:Option (X⊕Y))(F:X->Option α)(G:Y->Option α):Option α:=nE M F G
@[go_sem]theorem akm{X Y α:Type}(M:Option (X⊕Y))(F:X->Option α)(G:Y->Option α)(K:α->Prop):ok (yx M F G) K=okj M (eY (fun x=>ok (F x) K) (fun y=>ok (G y) K)):=XL ..
def eH{X Y:Type}{M:Option (X⊕Y)}{kf:X->Prop}{kr:Y->Prop}{live:List (Nat×Bool)}{a b:IC}{Q:Exit->St->Prop}{E:St}(enc:X->St)
 (ha:∀J:St->Prop,ok M (eY (fun x=>J (enc x)) kr)->fW P a (pK live J Q) E)(hb:∀x,kf x->fW P b Q (enc x)):okj M (eY kf kr)->fW P (.join live a b) Q E:=fun⟨x,h,k⟩=>by
 refine⟨fun τ=>∃x,τ=enc x/\kf x,ha _ ⟨x,h,?_⟩,fun _⟨x,e,k⟩=>e▸hb x k⟩
 cases x with
 |inl x=>exact⟨x,rfl,k⟩
 |inr y=>exact k
@[go_sem]theorem Qa(c:UInt8):byteOf (.int .u8 c.toNat)=some c:=by
  unfold byteOf
  have:=c.toNat_lt
  simp only
  rw[if_pos AT]
  simp
@[go_sem]theorem HD:∀l:List UInt8,bytesOf (flat l)=some l
  |[]=>rfl
  |c::l=>by
   show Sg (byteOf (.int .u8 c.toNat)) (bytesOf (flat l))=_
   rw[Qa,HD l];rfl
def aC(n:Int):Int:=IntKind.i64.wrap n
def ju(n:Int):UInt8:=UInt8.ofNat (IntKind.u8.wrap n).toNat
def eC(n:Int):UInt32:=UInt32.ofNat (IntKind.u32.wrap n).toNat
def YK(n:Int):UInt64:=UInt64.ofNat (IntKind.u64.wrap n).toNat
@[go_sem]theorem ahZ(n:Int):j6 .i64 n=aC n:=rfl
theorem Ek(k:IntKind)(n:Int)(hk:k.signed=false):k.wrap n=n % (2^k.bits:Int):=by grind [IntKind.wrap]
@[go_sem]theorem wrap_u8(n:Int):j6 .u8 n=(ju n).toNat:=by
  show IntKind.u8.wrap n=((UInt8.ofNat (IntKind.u8.wrap n).toNat).toNat)
  rw[Ek _ _ rfl,UInt8.toNat_ofNat']
  have:(2^IntKind.u8.bits)=256:=D_
  grind
@[go_sem]theorem wrap_u32(n:Int):j6 .u32 n=(eC n).toNat:=by
  show IntKind.u32.wrap n=((UInt32.ofNat (IntKind.u32.wrap n).toNat).toNat)
  rw[Ek _ _ rfl,UInt32.toNat_ofNat']
  have:(2^IntKind.u32.bits)=4294967296:=D_
  grind
@[go_sem]theorem wrap_u64(n:Int):j6 .u64 n=(YK n).toNat:=by
  show IntKind.u64.wrap n=((UInt64.ofNat (IntKind.u64.wrap n).toNat).toNat)
  rw[Ek _ _ rfl,UInt64.toNat_ofNat']
  have:(2^IntKind.u64.bits)=18446744073709551616:=D_
  grind
def ly(k:IntKind)(a b:Int):Int:=a*2^(min b.toNat k.bits)
def lz(k:IntKind)(a b:Int):Int:=a.fdiv (2^(min b.toNat k.bits))
def qb(k:IntKind)(a b:Int):Int:=(BitVec.ofInt k.bits a&&&BitVec.ofInt k.bits b).toNat
def JK(k:IntKind)(a b:Int):Int:=(BitVec.ofInt k.bits a |||BitVec.ofInt k.bits b).toNat
def YW(k:IntKind)(a b:Int):Int:=(BitVec.ofInt k.bits a^^^BitVec.ofInt k.bits b).toNat
def xG(k:IntKind)(a b:Int):Int:=(BitVec.ofInt k.bits a&&& ~~~BitVec.ofInt k.bits b).toNat
@[go_sem]theorem afa(k k':IntKind)(a b:Int):sQ .shl k k' a b=.prt (0<=b) (.int k (j6 k (ly k a b))):=rfl
@[go_sem]theorem afb(k k':IntKind)(a b:Int):sQ .shr k k' a b=.prt (0<=b) (.int k (lz k a b)):=rfl
@[go_sem]theorem ae9(k k':IntKind)(a b:Int):sQ .and k k' a b=kk k k' (.da (.int k (j6 k (qb k a b)))):=rfl
@[go_sem]theorem ah5(k k':IntKind)(a b:Int):sQ .or k k' a b=kk k k' (.da (.int k (j6 k (JK k a b)))):=rfl
@[go_sem]theorem afc(k k':IntKind)(a b:Int):sQ .xor k k' a b=kk k k' (.da (.int k (j6 k (YW k a b)))):=rfl
@[go_sem]theorem Zb(k k':IntKind)(a b:Int):sQ .andNot k k' a b=kk k k' (.da (.int k (j6 k (xG k a b)))):=rfl
@[go_sem]theorem aic(l:List UInt8)(k:Int):l.getD k.toNat 0=ix l k:=rfl
@[go_sem]theorem aiv(l:List UInt8)(lo hi:Int):(l.drop lo.toNat).take (hi -lo).toNat=part l lo hi:=rfl
attribute[go_sem] List.length_append true_or or_true eq_self_iff_true imp_self Bool.cond_true_left Bool.cond_false_right and_self and_true
def mv(d x:Nat):ar:=⟨some d,.oU false (.t x),none⟩
def mt(d x:Nat):ar:=⟨some d,.oU true (.t x),none⟩
def mvg(d x t:Nat)(w:Bool):ar:=⟨some d,.oU false (.t x),some (t,w)⟩
def mtg(d x t:Nat)(w:Bool):ar:=⟨some d,.oU true (.t x),some (t,w)⟩
def i1(d:Nat)(o:sD):ar:=⟨some d,o,none⟩
def Xc(d t:Nat)(w:Bool)(o:sD):ar:=⟨some d,o,some (t,w)⟩
def i0(o:sD):ar:=⟨none,o,none⟩
def i0g(t:Nat)(w:Bool)(o:sD):ar:=⟨none,o,some (t,w)⟩
attribute[go_sem] mv mt mvg mtg i1 Xc i0 i0g
@[go_sem]theorem ahy(a:AV)(l:List AV)(off n:Nat):AB.sub (a::l) off n=((a::l).drop off).take n:=rfl
attribute[go_sem] Ge SL
@[go_sem]theorem ab3(E:St)(b:Bool)(a:AV)(d:Option Nat):cq E (.when b a) d=cq E a d:=D_
end Go.AB
end
section
namespace Go.AB
open Go
def wG(t s:ae):Prop:=∀b o,t b=some o->s b=some o
theorem wG.refl(s:ae):wG s s:=fun _ _ h=>h
theorem wG.set{t s:ae}{b:Nat}{o:SO}(h:wG t s)(hb:t b=none):wG t (s.set b o):=fun c p hc=>by
 unfold ae.set
 by_cases hcb:c=b
 ·grind
 ·rw[if_neg hcb];exact h c p hc
variable{P:Program}
def FN.forget{f:FuncId}{args:List AV}{s:ae}{Q:List AV->ae->Prop}(h:FN P f args s fun rs t=>∃t',wG t' t/\Q rs t'):FN P f args s Q:=by
 intro G w vs h1 h2 h3 h4
 refine(h G w vs h1 h2 h3 h4).mono fun e w'⟨v,rs,s',G',a1,⟨t',ht,hq⟩,a3,a4,a5⟩=>⟨v,rs,t',G',a1,hq,a3,fun b o hb=>a4 b o (ht b o hb),a5⟩
theorem cD(s:ae)(b:Nat)(o:SO):(s.set b o) b=some o:=by simp[ae.set]
theorem ai{s:ae}{b c:Nat}{o:SO}(h:c≠b):(s.set b o) c=s c:=by simp[ae.set,h]
theorem set_set(s:ae)(b:Nat)(o p:SO):(s.set b o).set b p=s.set b p:=l4
theorem set_comm{a b:Nat}(h:a≠b){s:ae}{o p:SO}:(s.set b p).set a o=(s.set a o).set b p:=l4
def ac7{s:ae}{b:Nat}{o:SO}(h:s b=some o):s=s.set b o:=l4
theorem bq{s:ae}{b:Nat}{o:SO}(h:s b=some o):s.set b o=s:=(ac7 h).symm
theorem fB(s:ae)(b c:Nat)(o:SO):((s.set b o) c=none)=(c≠b/\s c=none):=l4
attribute[go_sem] cD set_set
def aL{α:Type}{o:Option α}{K K':α->Prop}(h:ok o K)(hk:∀r,K r->K' r):ok o K':=h.imp fun r⟨h1,h2⟩=>⟨h1,hk r h2⟩
section
variable(Q:Exit->St->Prop)(E τ:St)
@[go_sem]theorem adN(b:IC):fW P (.scope b) Q E=fW P b (xw Q) E:=by
  have:(fun x τ=>match x with|.goto _=>False|x=>Q x τ)=xw Q:=by funext e τ;cases e<;>rfl
  show fW P b (fun x τ=>match x with|.goto _=>False|x=>Q x τ) E=_
  rw[this]
@[go_sem]theorem ac4:xw Q .ret τ=Q .ret τ:=rfl
@[go_sem]theorem aat(i:Nat):xw Q (.exit i) τ=Q (.exit i) τ:=rfl
end
def BS(sz len n:Nat)(x:IX):AV->PR
 |.lp d o=>.prt (n+1<=len) (.lp d (o+n*sz))
 |.sp cs=>bif decide (len*sz<=cs.length)then .prt (n+1<=len) (.sp (cs.drop (n*sz)))else .no
 |.ref b o=>.prt (n+1<=len) (.ref b (o+n*sz))
 |.loc _=>QJ (n+1<=len) (n*sz) x
 |_=>.no
attribute[go_sem] BS.eq_1 BS.eq_2 BS.eq_3 BS.eq_4
def JC{α:Type}(l:List α)(i:Int)(x:α):List α:=l.take i.toNat++[x]++l.drop (i.toNat+1)
def KD{α:Type}[aP α](l:List α)(i:Int)(x:α)(n:Nat)(hn:n=aP.w α):setAt (flat l) (i.toNat*n) (aP.cells x)=flat (JC l i x):=by
 subst hn
 unfold setAt JC
 rw[c8,c8,n9,qI,List.append_nil,uM,aP.len]
 rw[show i.toNat*aP.w α+aP.w α=(i.toNat+1)*aP.w α from by grind,zx]
@[go_sem]theorem ai2(l:List UInt32)(i:Int)(x:UInt32):setAt (flat l) (i.toNat*1) [.int .u32 x.toNat]=flat (JC l i x):=KD l i x 1 rfl
@[go_sem]theorem ac6(a:AV)(l:List AV)(off:Nat)(news:List AV):setAt (a::l) off news=(a::l).take off++news++(a::l).drop (off+news.length):=rfl
@[go_sem]theorem agR(z:List AV)(a:AV)(l:List AV):pad z (a::l)=bif(a::l).length==z.length then a::l else z:=rfl
@[go_sem]theorem DP{α:Type}[aP α](n:Nat)(z:α):(List.replicate n (aP.cells z)).flatten=flat (List.replicate n z):=by simp[flat]
section
variable{d d':Option Nat}{K:St->Prop}{E:St}{b off:Nat}{news fX:List AV}
@[go_sem]theorem aiT:PI d K (wrS E b (eU off news fX))=(off+news.length<=fX.length/\K (({E with s:=E.s.set b (.cells (setAt fX off news))}:St).put d (.jg []))):=by grind [eU,wrS,PI]
@[go_sem]theorem aiS{i:Nat}:PI d K (wrL E i (eU off news fX))=(off+news.length<=fX.length/\K ((E.put (some i) (.loc (setAt fX off news))).put d (.jg []))):=by grind [eU,wrL,PI]
end
@[go_sem]theorem ZU(n:Nat):(((no_index (OfNat.ofNat n)):Nat):Int)=OfNat.ofNat n:=rfl
def ajm{κ ν:Type}(ek:κ->AV)(ev:ν->AV)(m:List (κ×ν)):List (AV×AV):=m.map fun p=>(ek p.1,ev p.2)
section
variable{κ ν:Type}[BEq κ]{ek:κ->AV}{ev:ν->AV}
end
theorem qV(a b:Int):yz (.int .i64 a) (.int .i64 b)=(a==b):=by simp[yz,cellsOf,si,TS]
attribute[go_sem] yF.eq_1
theorem ao{κ ν:Type}(ek:κ->AV)(ev:ν->AV):ajm ek ev []=[]:=rfl
@[go_sem]theorem aiP(n:Nat):(List.replicate n [AV.int .i64 0]).flatten=flat (List.replicate n (0:Int)):=DP n (0:Int)
@[go_sem]theorem akB(n:Nat):(List.replicate n [AV.int .u8 0]).flatten=flat (List.replicate n (0:UInt8)):=DP n (0:UInt8)
@[go_sem]theorem aiQ(n:Nat):(List.replicate n [AV.int .u32 0]).flatten=flat (List.replicate n (0:UInt32)):=DP n (0:UInt32)
end Go.AB
end
section
namespace Go.AB
open Go
attribute[go_sem] start sA lj uk U1 rP xq Nat.ble_eq
def mix:Go.Proofs.Tryz.prog.follows .mixedOrders=true:=B_
theorem bL:((true=false)=False)/\((false=true)=False)/\(∀p:Prop,(False->p)=True)/\(∀p:Prop,(True->p)=p)/\(∀p:Prop,(True/\p)=p)/\(∀p:Prop,(p/\True)=p)/\((!true)=false)/\((!false)=true)/\(∀b,(true||b)=true)/\(∀b,(false||b)=b):=BY
abbrev FF{α:Type}(f:Nat)(args:List AV)(m:Option α)(g:α->List AV):Prop:=∀{s:ae}{Q:List AV->ae->Prop},ok m (fun r=>Q (g r) s)->FN Go.Proofs.Tryz.prog f args s Q
def FP{f:Nat}{args:List AV}{s:ae}{Q:List AV->ae->Prop}(n:Nat)(res:List jt)(ic:IC)(hf:eO Go.Proofs.Tryz.prog f n res ic=true)(hv:(rP args&&Nat.ble args.length n)=true)(hw:fW Go.Proofs.Tryz.prog ic (xq res Q) (start args s)):FN Go.Proofs.Tryz.prog f args s Q:=FN.of (kH mix) hf (Bool.and_eq_true_iff.1 hv).1 (Nat.le_of_ble_eq_true (Bool.and_eq_true_iff.1 hv).2) hw
def FS{f:Nat}{args:List AV}{s:ae}{Q:List AV->ae->Prop}{Z:Prop}(n:Nat)(res:List jt)(num:Nat)(z:Z)(hf:eO Go.Proofs.Tryz.prog f n res (dec num)=true:=by kernel_rfl)(hv:(rP args&&Nat.ble args.length n)=true:=by rfl)(e:Z->fW Go.Proofs.Tryz.prog (dec num) (xq res Q) (start args s):=by intro h;(conv in dec _=>reduce);exact h):FN Go.Proofs.Tryz.prog f args s Q:=FP n res (dec num) hf hv (e z)
def FR{f:Nat}{args:List AV}{s:ae}{Q:List AV->ae->Prop}{X Z C:Prop}(n:Nat)(res:List jt)(num:Nat)(m:C)(z:Z)(hf:eO Go.Proofs.Tryz.prog f n res (dec num)=true:=by kernel_rfl)(hv:(rP args&&Nat.ble args.length n)=true:=by rfl)(e:C->Z->X->fW Go.Proofs.Tryz.prog (dec num) (xq res Q) (start args s):=by intro m h;(conv in dec _=>reduce);rw[m];exact h):X->FN Go.Proofs.Tryz.prog f args s Q:=fun x=>FP n res (dec num) hf hv (e m z x)
def FC{f:Nat}{args:List AV}{s:ae}{Q:List AV->ae->Prop}{X C:Prop}(n:Nat)(res:List jt)(num:Nat)(m:C)(hf:eO Go.Proofs.Tryz.prog f n res (dec num)=true:=by kernel_rfl)(hv:(rP args&&Nat.ble args.length n)=true:=by rfl)(e:C->X->fW Go.Proofs.Tryz.prog (dec num) (xq res Q) (start args s):=by intro m;(conv in dec _=>reduce);rw[m];repeat'(first|simp -implicitDefEqProofs only[go_sem,seval])):X->FN Go.Proofs.Tryz.prog f args s Q:=fun x=>FP n res (dec num) hf hv (e m x)
def iW{α:Type}{m:Option α}{f:Nat}{args:List AV}{s:ae}{g:α->List AV}{k:α->ae}{r:α}(hf:∀{Q:List AV->ae->Prop},ok m (fun r=>Q (g r) (k r))->FN Go.Proofs.Tryz.prog f args s Q)(h:m=some r):FE Go.Proofs.Tryz.prog f args s (g r) (k r):=hf ⟨r,h,rfl,rfl⟩
def FO{f n:Nat}{res:List jt}{ic:IC}{args:List AV}{s:ae}{Q:List AV->ae->Prop}(hf:eO Go.Proofs.Tryz.prog f n res ic=true)(hv:rP args=true)(hn:Nat.ble args.length n=true)(hw:fW Go.Proofs.Tryz.prog ic (xq res Q) (start args s)):FN Go.Proofs.Tryz.prog f args s Q:=FN.of (kH mix) hf hv (Nat.le_of_ble_eq_true hn) hw
def nf(G G2:Gh):Prop:=∀b,G.R b<=G2.R b/\(G.O b≠.sh->G2.O b=G.O b/\G2.R b=G.R b)
def FN.conv{P:Program}{f:FuncId}{args:List AV}{s:ae}{Q Q':List AV->ae->Prop}(h:FN P f args s Q)
 (k:∀rs s',Q rs s'->∀G w v,cE G w->bc G w s'->nz G w rs v->∃rs2 s2 G2,Q' rs2 s2/\nf G G2/\cE G2 w/\bc G2 w s2/\nz G2 w rs2 v):FN P f args s Q':=by
 intro G w vs h1 h2 h3 h4
 refine(h G w vs h1 h2 h3 h4).mono fun e w'⟨v,rs,s',G',a,hq,hg,hs,hr,hp⟩=>?_
 obtain⟨rs2,s2,G2,k1,k2,k3,k4,k5⟩:=k rs s' hq G' w' v hg hs hr
 refine⟨v,rs2,s2,G2,a,k1,k3,k4,k5,hp.os,hp.tape,hp.output,hp.drawn,hp.size,fun b hb=>Nat.le_trans (hp.mono b hb) (k2 b).1,hp.nq,hp.frame,fun b hb ho=>?_,fun b hb ho=>?_⟩
 ·obtain⟨q1,q2⟩:=hp.j8 b hb ho
  obtain⟨q3,q4⟩:=(k2 b).2 A_
  grind
 ·obtain⟨q1,q2⟩:=hp.rf b hb ho
  obtain⟨q3,q4⟩:=(k2 b).2 A_
  grind
section
variable{G:Gh}{w:World}{s:ae}{b:Nat}
def PJ(h:bc G w s)(hg:cE G w){cs:List AV}(hs:s b=some (.cells cs))(r:Nat):
 nf G (G.pA b (.res 0) r)/\cE (G.pA b (.res 0) r) w/\bc (G.pA b (.res 0) r) w (s.del b)/\(∀a v,VR w G.R a v->VR w (G.pA b (.res 0) r).R a v):=by
 obtain⟨q2,q3,c,t,q4,q5,q6⟩:=h b _ hs
 have hR:∀b',G.R b'<=(G.pA b (.res 0) r).R b':=fun b'=>by
  by_cases hb:b'=b
  ·grind
  ·simp[hb]
 have hv:∀a v,VR w G.R a v->VR w (G.pA b (.res 0) r).R a v:=fun a v h=>h.mono hR fun _ _ _=>rfl
 have same:∀b',b'≠b->(G.pA b (.res 0) r).O b'=G.O b'/\(G.pA b (.res 0) r).R b'=G.R b':=fun b' hb'=>⟨H_,H_⟩
 have hlt:=hg.lt L_
 refine⟨fun b'=>⟨hR b',fun hb'=>same b' fun e=>A_⟩,⟨fun b' hb'=>?_,fun b' hb'=>?_⟩,?_,hv⟩
 ·have:b'≠b:=AT
  rw[(same b' this).1,hg.kc b' hb']
 ·have:b'≠b:=AT
  rw[(same b' this).2,hg.kV b' hb']
 ·intro b' o hb'
  unfold ae.del at hb'
  split at hb'
  ·cases hb'
  ·rename_i hne
   obtain⟨r1,r2,r3⟩:=h b' o hb'
   refine⟨(same b' hne).1.trans r1,(same b' hne).2.trans r2,?_⟩
   cases o with
   |cells cs'=>
    obtain⟨c',t',r4,r5,r6⟩:=r3
    exact⟨c',t',r4,r5.mono hv (fun b'' j vB=>A_),r6⟩
   |map es=>
    obtain⟨jC,clock,r4,r5,r6⟩:=r3
    exact⟨jC,clock,r4,r5,fun j x y hx hy=>⟨hv _ _ (r6 j x y hx hy).1,hv _ _ (r6 j x y hx hy).2⟩⟩
def XV(h:bc G w s)(hg:cE G w){n cap sz:Nat}{cs sp:List AV}{v:Value}(hs:s b=some (.cells (cs++sp)))(hc:0<cap)(hn:n<=cap)(hl:(cs++sp).length=cap*sz)(hl2:cs.length=n*sz)(hvw:views (cs++sp)=cs++sp)
 (hr:nz G w [.arr b 0 n cap] v):∃G2,nf G G2/\cE G2 w/\bc G2 w (s.del b)/\nz G2 w [.us sz n cs] v:=by
 obtain⟨k1,k2,k3,k4⟩:=PJ h hg hs 0
 obtain⟨q2,q3,c,t,q4,q5,q6⟩:=h b _ hs
 refine⟨_,k1,k2,k3,.inr ⟨b,cap,c,t,sp,hc,hn,VR.pJ hr.1 hc,BY,BY,q4,by rw[q5.1,hl],hl2,hl,fun j x u hx hu=>k4 _ _ (q5.2 j x u hx hu).1,q6.flat hvw,hvw⟩⟩
def Ux{sz:Nat}{v:Value}(hr:nz G w [.arr b 0 0 0] v):nz G w [.us sz 0 []] v:=by
 rcases VR.cW hr.1 with e|⟨_,_,e⟩
 ·exact .inl ⟨rfl,rfl,.inr ⟨b,0,e⟩⟩
 ·exact .inl ⟨rfl,rfl,.inl e⟩
def Pr(h:bc G w s)(hg:cE G w){n cap sz:Nat}{cs sp:List AV}{v:Value}(hs:s b=some (.cells (cs++sp)))(hc:0<cap)(hn:n<=cap)(hl:(cs++sp).length=cap*sz)(hl2:cs.length=n*sz)(hvw:views cs=cs)
 (hr:nz G w [.arr b 0 n cap] v):∃G2,nf G G2/\cE G2 w/\bc G2 w (s.del b)/\nz G2 w [.sl true sz n cs] v:=by
 obtain⟨k1,k2,k3,k4⟩:=PJ h hg hs (n*sz)
 obtain⟨q2,q3,c,t,q4,q5,q6⟩:=h b _ hs
 have e:=VR.pJ hr.1 hc
 refine⟨_,k1,k2,k3,?_,?_⟩
 ·rw[e]
  refine .sl true sz n cs b 0 cap (fun j=>c.getD j undef) (q6.left.flat hvw) hl2 H_ hn (fun j x hj=>?_) (fun j x hj=>?_)
  all_goals
   have hj':(cs++sp)[j]? =some x:=A_
   have hlt:j<c.size:=by rw[q5.1];exact(List.getElem?_eq_some_iff.1 hj').1
   have kj:c[j]? =some (c.getD j undef):=H_
  ·rw[Nat.zero_add,cell_of_row w q4,kj]
  ·exact k4 _ _ (q5.2 j x _ hj' kj).1
 ·intro base m' cP hv _
  rw[e]at hv
  injection hv with e1 e2 e3
  subst e3
  exact⟨b,0,c,t,(0,0),e1.symm,BY,BY,q4,by rw[q5.1,hl,Nat.zero_add],fun j _ hj=>A_,Nat.le_refl _,rfl,.inl rfl,fun j y _ hy=>by
   have hlt:j<(cs++sp).length:=by rw[<-q5.1];exact(Array.getElem?_eq_some_iff.1 hy).1
   exact rh (q6 _ (List.getElem_mem hlt)) (q5.2 j _ y (List.getElem?_eq_getElem hlt) hy).1⟩
def Ly{sz:Nat}{v:Value}(hr:nz G w [.arr b 0 0 0] v):nz G w [.sl true sz 0 []] v:=by
 rcases VR.cW hr.1 with e|⟨_,_,e⟩
 ·refine⟨?_,?_⟩
  ·rw[e];exact .sl true sz 0 [] b 0 0 (fun _=>undef) Fl.nil BY BY (Nat.le_refl _) (fun j c hj=>A_) (fun j c hj=>A_)
  ·intro base m' cP hv hc;grind
 ·refine⟨by rw[e];exact .slnil _ _,?_⟩
  intro base m' cP hv hc;grind
end
theorem jV{s:ae}{b:Nat}{o:SO}(h:s b=none):(s.set b o).del b=s:=by grind [ae.set,ae.del]
@[go_sem]theorem bp{s:ae}{b:Nat}{o:SO}:(s.set b o) b=some o:=by unfold ae.set;simp
def Sub(s2 s:ae):Prop:=∀b o,s2 b=some o->s b=some o
theorem Sub.refl(s:ae):Sub s s:=fun _ _ h=>h
theorem Sub.set{s s2:ae}(h:Sub s2 s){b:Nat}{o:SO}(hb:s b=none):Sub s2 (s.set b o):=fun b' o' h'=>by
 have:=h b' o' h'
 grind [ae.set]
def Sub.E7{s s2:ae}(h:Sub s2 s){b:Nat}{o:SO}:Sub (s2.set b o) (s.set b o):=fun b' o' h'=>by
 unfold ae.set at h'⊢
 split
 ·grind
 ·rename_i e;rw[if_neg e]at h';exact h b' o' h'
theorem Sub.none{s s2:ae}(h:Sub s2 s){b:Nat}(hb:s b=none):s2 b=none:=by
 cases h2:s2 b with
 |none=>rfl
 |some o=>have:=h b o h2;grind
theorem bc.sub{G:Gh}{w:World}{s s2:ae}(h:bc G w s)(hs:Sub s2 s):bc G w s2:=fun b o hb=>h b o (hs b o hb)
theorem nf.refl(G:Gh):nf G G:=fun _=>⟨Nat.le_refl _,fun _=>⟨rfl,rfl⟩⟩
def FN.j4{P:Program}{f:FuncId}{args:List AV}{s:ae}{Q:List AV->ae->Prop}(h:FN P f args s fun rs s'=>∃s2,Sub s2 s'/\Q rs s2):FN P f args s Q:=h.conv fun rs _⟨s2,h1,h2⟩ G _ _ hg hs hr=>⟨rs,s2,G,h2,nf.refl G,hg,hs.sub h1,hr⟩
def FN.Ae{P:Program}{f:FuncId}{args:List AV}{s s2:ae}{Q:List AV->ae->Prop}{sz:Nat}{cs:List AV}{n:Nat}(hl2:cs.length=n*sz)(hvw:views cs=cs)(hq:Q [.sl true sz n cs] s2)
 (h:FN P f args s fun rs s'=>(∃b cap sp,rs=[.arr b 0 n cap]/\s' b=some (.cells (cs++sp))/\0<cap/\n<=cap/\(cs++sp).length=cap*sz/\Sub s2 (s'.del b))\/(n=0/\cs=[]/\Sub s2 s'/\∃b,rs=[.arr b 0 0 0])):FN P f args s Q:=by
 refine h.conv fun rs s' hq' G w v hg hs hr=>?_
 rcases hq' with⟨b,cap,sp,rfl,hb,hc,hn,hl,gn⟩|⟨rfl,rfl,gn,b,rfl⟩
 ·obtain⟨G2,k1,k2,k3,k4⟩:=Pr hs hg hb hc hn hl hl2 hvw hr
  exact⟨_,_,G2,hq,k1,k2,k3.sub gn,k4⟩
 ·exact⟨_,_,G,hq,nf.refl G,hg,hs.sub gn,Ly hr⟩
def FN.U7{P:Program}{f:FuncId}{args:List AV}{s s2:ae}{Q:List AV->ae->Prop}{sz:Nat}{cs:List AV}{n:Nat}(hl2:cs.length=n*sz)(hq:Q [.us sz n cs] s2)
 (h:FN P f args s fun rs s'=>(∃b cap sp,rs=[.arr b 0 n cap]/\s' b=some (.cells (cs++sp))/\0<cap/\n<=cap/\(cs++sp).length=cap*sz/\views (cs++sp)=cs++sp/\Sub s2 (s'.del b))\/(n=0/\cs=[]/\Sub s2 s'/\∃b,rs=[.arr b 0 0 0])):FN P f args s Q:=by
 refine h.conv fun rs s' hq' G w v hg hs hr=>?_
 rcases hq' with⟨b,cap,sp,rfl,hb,hc,hn,hl,hvw,gn⟩|⟨rfl,rfl,gn,b,rfl⟩
 ·obtain⟨G2,k1,k2,k3,k4⟩:=XV hs hg hb hc hn hl hl2 hvw hr
  exact⟨_,_,G2,hq,k1,k2,k3.sub gn,k4⟩
 ·exact⟨_,_,G,hq,nf.refl G,hg,hs.sub gn,Ux hr⟩
def UG:AV->Bool
 |.int _ _=>true
 |.bool _=>true
 |.str _=>true
 |_=>false
def GX{w w':World}{R R':Nat->Nat}{a:AV}{v:Value}(h:UG a=true)(hv:VR w R a v):VR w' R' a v:=by
 cases a<;>first|(cases h)|skip
 ·rw[VR.iu hv];exact .bool _
 ·rw[VR.cu hv];exact .int _ _
 ·rw[VR.gH hv];exact .str _
def FN.borrow{P:Program}{f:FuncId}{args Ck:List AV}{s:ae}{Q:List AV->ae->Prop}(b k:Nat)
 (h:FN P f Ck B6 fun rs _=>rs.all UG=true/\Q rs s)
 (ha:∀(G:Gh)(w:World)(vs:Array Value),bc G w s->lY w G.R args vs->lY w (fun i=>if i=b/\b<w.heap.size then k else G.R i) Ck vs):FN P f args s Q:=by
 intro G w vs h1 h2 h3 h4
 let G1:Gh:=⟨fun i=>if i=b/\b<w.heap.size then k else G.R i,fun i=>if G.O i=.none then .none else .frame⟩
 have hO1:∀i,G1.O i=.frame\/G1.O i=.none:=fun i=>A_
 have hg1:cE G1 w:=⟨fun i hi=>by simp[G1,h1.kc i hi],fun i hi=>by
  have:¬(i=b/\b<w.heap.size):=AT
  show(if i=b/\b<w.heap.size then k else G.R i)=0
  rw[if_neg this,h1.kV i hi]⟩
 refine(h G1 w vs hg1 (fun i=>(hO1 i).elim (fun e=>.inr (.inl e)) .inl) (fun i o hi=>by cases hi) (ha G w vs h3 h4)).mono fun e w'⟨v,rs,s',G',he,⟨hpl,hq⟩,_,_,hr,hp⟩=>?_
 have same:=fun i hi=>hp.frame i hi (hO1 i)
 have ep:∀i j,i<w.heap.size->w'.cell? ⟨i,j,none⟩=w.cell? ⟨i,j,none⟩:=fun i j hi=>World.cell?_of_block (same i hi)
 have hlt:∀i,G.O i≠.none->i<w.heap.size:=fun i hi=>h1.lt hi
 have bF:aI G w G w':=⟨hp.os,hp.tape,hp.output,hp.drawn,hp.size,fun _ _=>Nat.le_refl _,fun i j hi _=>ep i j hi,fun i hi _=>same i hi,fun i _ ho=>⟨ho,rfl⟩,fun i _ ho=>⟨ho,rfl⟩⟩
 have hg':cE G w':=⟨fun i hi=>h1.kc i (Nat.le_trans hp.size hi),fun i hi=>h1.kV i (Nat.le_trans hp.size hi)⟩
 refine⟨v,rs,s,G,he,hq,hg',h3.mono h1 bF (fun i hi=>⟨hi,rfl,same i (hlt i A_)⟩) (fun i c j _ hc=>⟨hc,rfl,same c (hlt c A_)⟩),?_,bF⟩
 match rs,hpl,hr with
 |[],_,hr=>
  obtain⟨ys,q1,q2,q3⟩:=hr
  exact⟨ys,q1,q2,fun j x y hx hy=>T_⟩
 |[a],hpl,hr=>
  have hpa:=by simpa using hpl
  have hr':VR w' G'.R a v/\dS G' w' (.res 0) a v:=by cases a<;>first|exact hr|(cases hpa;done)
  have hv:=GX (w':=w') (R':=G.R) hpa hr'.1
  cases a<;>first|exact⟨hv,trivial⟩|(cases hpa;done)
 |a1::a2::rr,hpl,hr=>
  obtain⟨ys,q1,q2,q3⟩:=hr
  refine⟨ys,q1,q2,fun j x y hx hy=>?_⟩
  have hpa:=List.all_eq_true.1 hpl x (List.mem_of_getElem? hx)
  refine⟨GX hpa (q3 j x y hx hy).1,?_⟩
  cases x<;>first|trivial|(done)
def JV{G:Gh}{w:World}{s:ae}{b n cap sz:Nat}{cs:List AV}{v:Value}(h:bc G w s)(hlen:cs.length=n*sz)(hn:n<=cap)(hvw:views cs=cs)(hs:cs≠[]->∃sp,s b=some (.cells (cs++sp)))(hv:VR w G.R (.arr b 0 n cap) v)(hsz:0<sz):
 VR w (fun i=>if i=b/\b<w.heap.size then n*sz else G.R i) (.sl false sz n cs) v:=by
 by_cases hcs:cs=[]
 ·subst hcs
  have hn0:n=0:=by
   rcases Nat.mul_eq_zero.1 hlen.symm with h|h
   ·exact h
   ·omega
  subst hn0
  rcases VR.cW hv with e|⟨_,_,e⟩
  ·rw[e];exact .sl false sz 0 [] b 0 cap (fun _=>undef) Fl.nil BY (Nat.zero_le _) (Nat.zero_le _) (fun j c hj=>K_) (fun j c hj=>K_)
  ·rw[e];exact .slnil _ _
 ·obtain⟨sp,hs⟩:=hs hcs
  obtain⟨q2,q3,c,t,q4,q5,q6⟩:=h b _ hs
  have hn0:0<n:=by
   rcases Nat.eq_zero_or_pos n with h|h
   ·simp_all
   ·exact h
  have e:=VR.pJ hv AT
  rw[e]
  have afT:∀a u,VR w G.R a u->VR w (fun i=>if i=b/\b<w.heap.size then n*sz else G.R i) a u:=fun a u h=>h.mono (fun i=>A_) fun _ _ _=>rfl
  refine .sl false sz n cs b 0 cap (fun j=>c.getD j undef) (q6.left.flat hvw) hlen A_ hn (fun j x hj=>?_) (fun j x hj=>?_)
  all_goals
   have hj':(cs++sp)[j]? =some x:=A_
   have hlt:j<c.size:=by rw[q5.1];exact(List.getElem?_eq_some_iff.1 hj').1
   have kj:c[j]? =some (c.getD j undef):=H_
  ·rw[Nat.zero_add,cell_of_row w q4,kj]
  ·exact afT _ _ (q5.2 j x _ hj' kj).1
def Wc:Nat:=18446744073709551616
@[go_sem]theorem aio(a b:Nat):Nat.beq a b=(a==b):=Bool.eq_iff_iff.2 BY
def Mu{A C:Prop}{b:Bool}(h:b=true)(k:A->C):A->b=true/\C:=fun x=>⟨h,k x⟩
def ab9{A C:Prop}{a b:Nat}(h:a=b)(k:A->C):A->a=b/\C:=fun x=>⟨h,k x⟩
@[go_sem]theorem agS(l:List Int):pad [.int .i64 0] (views (AB.sub (flat l) 0 1))=[.int .i64 (ix l 0)]:=Ps l 0
def pB{P:Program}{f:FuncId}{as1 as2 rs:List AV}{s s':ae}(e:as1=as2)(h:FE P f as1 s rs s'):FE P f as2 s rs s':=e▸h
def T5(E:St)(d:Option Nat)(K:St->Prop)(b off:Nat):Option SO->Prop
 |some (.cells cs)=>kA off cs fun cs' a=>K ({E with s:=E.s.set b (.cells cs')}.put d a)
 |_=>False
@[go_sem]theorem abS(E:St)(d:Option Nat)(K:St->Prop)(b off:Nat):qj E d K (.ref b off)=T5 E d K b off (E.s b):=D_
@[go_sem]theorem Xz(E:St)(d:Option Nat)(K:St->Prop)(b off:Nat)(cs:List AV):T5 E d K b off (some (.cells cs))=kA off cs fun cs' a=>K ({E with s:=E.s.set b (.cells cs')}.put d a):=rfl
def T4(E:St)(d:Option Nat)(K:St->Prop)(i off:Nat):AV->Prop
 |.loc cs=>d≠some i/\sN off cs fun cs' a=>K ((E.put (some i) (.loc cs')).put d a)
 |_=>False
@[go_sem]theorem ad2(E:St)(d:Option Nat)(K:St->Prop)(i off:Nat):qj E d K (.lp i off)=T4 E d K i off (look E.e i):=D_
@[go_sem]theorem abR(E:St)(d:Nat)(K:St->Prop)(i off:Nat)(cs:List AV):T4 E (some d) K i off (.loc cs)=(Nat.beq d i=false/\sN off cs fun cs' a=>K ((E.put (some i) (.loc cs')).put (some d) a)):=by
  show(some d≠some i/\_)=_
  grind [Nat.beq,Nat.eq_of_beq_eq_true,Nat.beq_refl]
@[go_sem]theorem adn(o:Bool)(sz n:Nat)(ds cs:List AV)(k:List AV->AV->Prop):kA 0 (.sl o sz n ds::cs) k=k (.sl false sz n ds::cs) (.sl o sz n ds):=rfl
@[go_sem]theorem ahD(t n:Nat)(ds cs:List AV)(k:List AV->AV->Prop):kA 0 (.bb t n ds::cs) k=k (.sl false 1 n ds::cs) (.bb t n ds):=rfl
@[go_sem]theorem adm(a:AV)(n:Nat)(cs:List AV)(k:List AV->AV->Prop):kA (n+1) (a::cs) k=kA n cs fun cs' x=>k (a::cs') x:=D_
@[go_sem]theorem adp(o:Bool)(sz n:Nat)(ds cs:List AV)(k:List AV->AV->Prop):sN 0 (.sl o sz n ds::cs) k=k (.sl false sz n ds::cs) (.sl o sz n ds):=rfl
@[go_sem]theorem ado(a:AV)(n:Nat)(cs:List AV)(k:List AV->AV->Prop):sN (n+1) (a::cs) k=sN n cs fun cs' x=>k (a::cs') x:=D_
def ixI:AV->Option Int
 |.int _ n=>some n
 |_=>none
@[go_sem]theorem agb(f:IX->AV)(d:Int):Gx f none d=some d:=rfl
@[go_sem]theorem agc(f:IX->AV)(x:IX)(d:Int):Gx f (some x) d=ixI (f x):=rfl
@[go_sem]theorem aik(k:IntKind)(n:Int):ixI (.int k n)=some n:=rfl
attribute[go_sem] Option.isSome_some Bool.cond_true
@[go_sem]theorem Y9(off cap sz:Nat):jF off cap 0 sz=off:=by grind [jF]
@[go_sem]theorem toNat_zero:(0:Int).toNat=0:=rfl
attribute[go_sem] Int.toNat_natCast Int.sub_zero Nat.sub_zero
@[go_sem]theorem toNat_sub'(a b:Nat):((a:Int) -(b:Int)).toNat=a -b:=BY
section
variable{E:St}{d:Option Nat}{K:St->Prop}{sz by':Nat}{zero:List AV}{b off n cap m:Nat}{cs ds:List AV}
theorem uv{s:ae}(hs:s b=some (.cells cs))(hf:off+m*sz<=cs.length):vL s sz (.arr b off m cap)=some (m,views (AB.sub cs off (m*sz))):=by
 show(bif m==0 then some (0,[])else jU m sz off (s b))=_
 by_cases hm:m=0
 ·subst hm;simp[AB.sub,views]
 ·rw[show(m==0)=false by grind,hs]
  show(bif decide (off+m*sz<=cs.length)then some (m,views (AB.sub cs off (m*sz)))else none)=_
  grind
theorem gl(s:ae)(ow:Bool):vL s sz (.sl ow sz m ds)=some (m,views ds):=by unfold vL;simp
theorem Rh(s:ae):vL s sz (.arr b off 0 cap)=some (0,[]):=rfl
theorem oi{s:ae}(hs:s b=some (.cells cs))(hf:off+n*sz<=cs.length):oZ s sz b off n=some (views (AB.sub cs off (n*sz))):=by
 unfold oZ
 by_cases hm:n=0
 ·subst hm;simp[AB.sub,views]
 ·rw[show(n==0)=false by grind,hs]
  show((bif decide (off+n*sz<=cs.length)then some (n,views (AB.sub cs off (n*sz)))else none)).map Prod.snd=_
  grind
def k8(hz:zero.length=sz)(hs:E.s b=some (.cells cs))(hf:off+cap*sz<=cs.length)(hm:n+m<=cap)
 (hk:K ({E with s:=E.s.set b (.cells (setAt cs (off+n*sz) ds))}.put d (.arr b off (n+m) cap))):eS sz by' zero E d K (.arr b off n cap) (some (m,ds)):=by
 have hn:off+n*sz<=cs.length:=Nat.le_trans (Nat.add_le_add_left (Nat.mul_le_mul_right _ AT) _) hf
 show P3 sz by' zero E d K b off n cap m ds (oZ E.s sz b off n)
 rw[oi hs hn]
 refine⟨hz,fun _=>.inr ⟨Xc7,?_⟩,fun h=>AT⟩
 rw[hs];exact hk
def er(hz:zero.length=sz){olds:List AV}(ho:oZ E.s sz b off n=some olds)(hm:cap<n+m)(hr:(n+m)*by'<=room)
 (hk:∀b' cP,E.s b'=none->n+m<=cP->K ({E with s:=E.s.set b' (.cells (olds++ds++(List.replicate (cP -(n+m)) zero).flatten))}.put d (.arr b' 0 (n+m) cP))):eS sz by' zero E d K (.arr b off n cap) (some (m,ds)):=by
 show P3 sz by' zero E d K b off n cap m ds (oZ E.s sz b off n)
 rw[ho]
 exact⟨hz,fun h=>AT,fun _=>⟨hr,hk⟩⟩
def mE(hz:zero.length=sz){olds:List AV}(ho:oZ E.s sz b off n=some olds)(hm:n<=cap)(hk:K (E.put d (.arr b off n cap))):eS sz by' zero E d K (.arr b off n cap) (some (0,ds)):=by
 show P3 sz by' zero E d K b off n cap 0 ds (oZ E.s sz b off n)
 rw[ho]
 exact⟨hz,fun _=>.inl ⟨rfl,hk⟩,fun h=>AT⟩
def l9(hs:E.s b=some (.cells cs))(hf:off+n*sz<=cs.length)
 (hk:K ({E with s:=E.s.set b (.cells (setAt cs off (ds.take (min m n*sz))))}.put d (.int .i64 (min m n:Nat)))):zr sz E d K (.arr b off n cap) (some (m,ds)):=by
 refine .inr ⟨Xc7,?_⟩
 rw[hs];exact hk
def Cz(hz:views zero=zero)(hs:E.s b=some (.cells cs))(hf:off+n*zero.length<=cs.length)
 (hk:K ({E with s:=E.s.set b (.cells (setAt cs off (List.replicate n zero).flatten))}.put d (.jg []))):xT zero E d K (.arr b off n cap):=by
 refine .inr ⟨Xc7,hz,?_⟩
 rw[hs];exact hk
def HH(h0:n=0)(hk:K (E.put d (.jg []))):xT zero E d K (.arr b off n cap):=.inl ⟨h0,hk⟩
def xJ(hz:zero.length=sz)(hv:views zero=zero){olds:List AV}(ho:oZ E.s sz b off n=some olds)(hm:cap<n+m)(hr:(n+m)*by'<=room)
 (hk:∀b' cP,E.s b'=none->n+m<=cP->K ({E with s:=E.s.set b' (.cells (olds++(List.replicate m zero).flatten++(List.replicate (cP -(n+m)) zero).flatten))}.put d (.arr b' 0 (n+m) cP))):xI sz by' zero E d K (.arr b off n cap) (.int .i64 (m:Nat)):=by
 show 0<=(m:Int)/\_
 grind [Int.natCast_nonneg,Int.toNat_natCast,P3,oZ]
def XQ{P:Program}{f:FuncId}{ow:Bool}{b' Up n' cP m:Nat}{cs:List AV}(h1:JP P f)(h2:0<m)(h3:cs≠[])(h4:0<cP){o:List AV}(h5:E.s b'=some (.cells o))(h6:o.length≠0)(hk:K (E.put d (.bool false))):XP P f E d K (.sl ow sz m cs) (.arr b' Up n' cP):=by
 cases m with
 |zero=>omega
 |succ m=>cases cs with
  |nil=>grind
  |cons c cs=>cases cP with
   |zero=>omega
   |succ cP=>
    refine⟨h1,?_,hk⟩
    cases o with
    |nil=>grind
    |cons _ _=>rw[h5];exact trivial
theorem ac5(C X Y:List AV)(k k':Nat)(h1:k'=k+Y.length)(h2:k'+X.length<=C.length):setAt (setAt C k' X) k Y=C.take k++Y++X++C.drop (k'+X.length):=by
 unfold setAt
 grind
theorem gv{off cap l sz:Nat}(h:l<cap):jF off cap l sz=off+l*sz:=by grind [jF]
end
section
variable{α:Type}[aP α]
theorem CM(l:List α)(k:Nat):flat (l.take k)=(flat l).take (k*aP.w α):=(uM l k).symm
theorem M0(l:List α)(k:Nat):flat (l.drop k)=(flat l).drop (k*aP.w α):=(zx l k).symm
theorem ik(l:List α)(sp:List AV)(n j m:Nat)(hn:n=aP.w α)(h:j+m<=l.length):AB.sub (flat l++sp) (j*n) (m*n)=flat ((l.drop j).take m):=by
 subst hn
 rw[<-lG l _ j m rfl]
 unfold AB.sub
 have h1:j*aP.w α<=(flat l).length:=by rw[ax];exact Nat.mul_le_mul_right _ AT
 rw[List.drop_append_of_le_length h1,List.take_append_of_le_length]
 rw[List.length_drop,ax,<-Nat.sub_mul]
 exact Nat.mul_le_mul_right _ AT
theorem jz(l l':List α)(sp:List AV)(n i:Nat)(hn:n=aP.w α)(h:i+l'.length<=l.length):setAt (flat l++sp) (i*n) (flat l')=flat (l.take i++l'++l.drop (i+l'.length))++sp:=by
 unfold setAt
 have e1:i*aP.w α+(flat l').length=(i+l'.length)*aP.w α:=by rw[ax,Nat.add_mul]
 grind [aP.w,flat,ax,Nat.mul_le_mul_right,c8,CM,M0,List.append_assoc]
theorem yZ(l l':List α)(sp:List AV)(n:Nat)(hn:n=aP.w α)(h:l'.length*n<=sp.length):setAt (flat l++sp) (l.length*n) (flat l')=flat (l++l')++sp.drop (l'.length*n):=by
 subst hn
 unfold setAt
 have e0:=(ax l).symm
 have e1:=ax l'
 rw[c8]
 simp_all
theorem fq(z:α)(k:Nat):flat (List.replicate k z)=(List.replicate k (aP.cells z)).flatten:=by unfold flat;simp_all
end
def lM{P:Program}{S O:Type}{body:S->Option (S⊕O)}{s0:S}{kf:O->Prop}{live:List (Nat×Bool)}{b:IC}{Q:Exit->St->Prop}{E:St}(R:S->St->Prop)
 (h0:R s0 (E.fu live))
 (hb:∀(J:St->Prop)(s:S)(τ:St),R s τ->ok (body s) (eY (fun t=>∀U',R t U'->J U') kf)->fW P b (pK live J Q) τ):ok (iter body s0) kf->fW P (.loop live b) Q E:=by
 intro h
 have yl:∀τ,(∃m s,R s τ/\ok (cC body m s) kf)->∃m,(∃s,R s τ/\ok (cC body m s) kf)/\∀k,k<m->¬∃s,R s τ/\ok (cC body k s) kf:=by
  rintro τ ⟨m,s,h⟩
  induction m using Nat.strongRecOn generalizing s with
  |_ m ih=>grind
 have hμ:∃μ:St->Nat,∀τ,(∃m s,R s τ/\ok (cC body m s) kf)->(∃s,R s τ/\ok (cC body (μ τ) s) kf)/\∀k,k<μ τ->¬∃s,R s τ/\ok (cC body k s) kf:=⟨fun τ=>Classical.epsilon fun m=>(∃s,R s τ/\ok (cC body m s) kf)/\∀k,k<m->¬∃s,R s τ/\ok (cC body k s) kf,fun τ hτ=>Classical.epsilon_spec (yl τ hτ)⟩
 obtain⟨μ,hμ⟩:=hμ
 refine⟨fun τ=>∃m s,R s τ/\ok (cC body m s) kf,μ,⟨_,s0,h0,h⟩,?_⟩
 intro τ hτ
 obtain⟨⟨s,e,hs⟩,_⟩:=hμ τ hτ
 generalize hm:μ τ=m at hs
 cases m with
 |zero=>grind [sf]
 |succ m=>
  rw[xh]
  obtain⟨x,hx,k⟩:=se hs
  refine hb _ s τ e ⟨x,hx,?_⟩
  cases x with
  |inr o=>exact k
  |inl t=>
   intro U' ht
   refine⟨⟨m,t,ht,k⟩,?_⟩
   have h2:=(hμ U' ⟨m,t,ht,k⟩).2
   rcases Nat.lt_or_ge m (μ U')with hlt|hge
   ·exact(h2 m hlt ⟨t,ht,k⟩).elim
   ·omega
def wR{α:Type}[aP α](l:List α)(sp:List AV){i r:Nat}(hi:i<l.length)(hr:r<aP.w α):(flat l++sp)[i*aP.w α+r]? =(aP.cells l[i])[r]? :=by
 have hlt:i*aP.w α+r<(flat l).length:=by
  rw[ax]
  calc i*aP.w α+r<(i+1)*aP.w α:=by grind
   _<=l.length*aP.w α:=Nat.mul_le_mul_right _ hi
 rw[List.getElem?_append_left hlt]
 have h:=lG l (aP.w α) i 1 rfl
 rw[Nat.one_mul,List.drop_eq_getElem_cons hi]at h
 have h2:(AB.sub (flat l) (i*aP.w α) (aP.w α))[r]? =(aP.cells l[i])[r]? :=by
  rw[h]
  show(flat [l[i]])[r]? =_
  unfold flat
  simp
 rw[Ca,if_pos hr]at h2
 exact h2
abbrev cZ:=Option (Nat×Nat×List AV)
section
variable{α:Type}[aP α]
def LS:cZ->Nat
 |none=>0
 |some (b,_,_)=>b
def I3:cZ->Nat
 |none=>0
 |some (_,cap,_)=>cap
abbrev jk(r:cZ)(n:Nat):AV:=.arr (LS r) 0 n (I3 r)
def jb(s:ae)(r:cZ)(l:List α):ae:=match r with
 |none=>s
 |some (b,_,sp)=>s.set b (.cells (flat l++sp))
def fY(s:ae)(r:cZ)(l:List α):Prop:=match r with
 |none=>l=[]
 |some (b,cap,sp)=>s b=none/\0<cap/\l.length<=cap/\(flat l++sp).length=cap*aP.w α/\views sp=sp
def U6{s:ae}{r:cZ}{l:List α}(h:fY s r l):Sub s (jb s r l):=by
 cases r with
 |none=>exact Sub.refl s
 |some x=>exact(Sub.refl s).set h.1
def jR{s:ae}{r:cZ}{l:List α}(h:fY s r l){b:Nat}{o:SO}(hb:s b=some o):jb s r l b=some o:=U6 h b o hb
def xH{E:St}{d:Option Nat}{K:St->Prop}{sz by':Nat}{s:ae}{r:cZ}{l:List α}{z v:α}(hσ:E.s=jb s r l)(h:fY s r l)(hz:sz=aP.w α)(hr:(l.length+1)*by'<=room)
 (hK:∀s' r',Sub s s'->fY s' r' (l++[v])->K ({E with s:=jb s' r' (l++[v])}.put d (jk r' (l.length+1)))):
 eS sz by' (aP.cells z) E d K (jk r l.length) (some (1,aP.cells v)):=by
 subst hz
 have hcz:(aP.cells z).length=aP.w α:=aP.len z
 have hcv:flat [v]=aP.cells v:=ω
 have hvz:views (aP.cells z)=aP.cells z:=aP.vw z
 have fresh:∀(s':ae)(b' cP:Nat),s' b'=none->l.length+1<=cP->fY s' (some (b',cP,flat (List.replicate (cP -(l.length+1)) z))) (l++[v]):=fun s' b' cP hb hc=>by
  refine⟨hb,AT,A_,?_,aH _⟩
  rw[List.length_append,ax,ax,List.length_replicate,List.length_append,<-Nat.add_mul]
  grind
 cases r with
 |none=>
  obtain rfl:l=[]:=h
  show eS (aP.w α) by' (aP.cells z) E d K (.arr 0 0 0 0) _
  refine er hcz (olds:=[]) rfl BY hr fun b' cP hb' hc=>?_
  rw[List.nil_append,<-fq,<-hcv]
  rw[hσ]at hb'⊢
  have:=hK s (some (b',cP,flat (List.replicate (cP -(0+1)) z))) (Sub.refl s) (fresh s b' cP hb' hc)
  exact this
 |some x=>
  obtain⟨b,cap,sp⟩:=x
  obtain⟨h1,h2,h3,h4,h5⟩:=h
  have hs:E.s b=some (.cells (flat l++sp)):=Xa0
  show eS (aP.w α) by' (aP.cells z) E d K (.arr b 0 l.length cap) _
  by_cases hc:l.length+1<=cap
  ·refine k8 hcz hs A_ hc ?_
   have hsp:[v].length*aP.w α<=sp.length:=by
    rw[List.length_append,ax]at h4
    have:(l.length+1)*aP.w α<=cap*aP.w α:=Nat.mul_le_mul_right _ hc
    rw[Nat.add_mul,Nat.one_mul]at this
    simp;omega
   have st:=yZ l [v] sp (aP.w α) rfl hsp
   rw[Nat.zero_add,<-hcv,st]
   have e:E.s.set b (.cells (flat (l++[v])++sp.drop ([v].length*aP.w α)))=jb s (some (b,cap,sp.drop ([v].length*aP.w α))) (l++[v]):=by
    rw[hσ]
    show(s.set b _).set b _=s.set b _
    exact set_set ..
   rw[e]
   refine hK s _ (Sub.refl s) ⟨h1,h2,A_,?_,?_⟩
   ·grind [List.length_append,ax,List.length_drop,Nat.add_mul]
   grind [views,List.map_drop]
  ·refine er hcz (oi hs (by
    grind)) AT hr fun b' cP hb' hc'=>?_
   have ho:views (AB.sub (flat l++sp) 0 (l.length*aP.w α))=flat l:=by
    have:=ik l sp (aP.w α) 0 l.length rfl AT
    rw[Nat.zero_mul]at this
    rw[this,List.drop_zero,List.take_length,aH]
   rw[ho,<-fq,<-hcv,<-c8]
   rw[hσ]at hb'⊢
   have hb0:(s.set b (.cells (flat l++sp))) b'=none:=hb'
   exact hK (s.set b (.cells (flat l++sp))) (some (b',cP,flat (List.replicate (cP -(l.length+1)) z))) ((Sub.refl s).set h1) (fresh _ b' cP hb0 hc')
def NY{s:ae}{r:cZ}{l:List α}(h:fY s r l)(hl:0<l.length):∃b cap sp,r=some (b,cap,sp):=by
 cases r with
 |none=>rw[h]at hl;simp at hl
 |some x=>grind
def Yn{s:ae}{b cap:Nat}{sp:List AV}{l l':List α}(h:fY s (some (b,cap,sp)) l)(hl:l'.length=l.length):fY s (some (b,cap,sp)) l':=by
 obtain⟨h1,h2,h3,h4,h5⟩:=h
 exact⟨h1,h2,AT,by grind [List.length_append,ax],h5⟩
def Ib{E:St}{d:Option Nat}{K:St->Prop}{sz:Nat}{s:ae}{r:cZ}{l:List α}(hσ:E.s=jb s r l)(h:fY s r l)(hz:sz=aP.w α)
 (hK:K ({E with s:=s}.put d (.sl true sz l.length (flat l)))):ye sz true E d K (jk r l.length):=by
 subst hz
 cases r with
 |none=>
  obtain rfl:l=[]:=h
  refine .inl ⟨rfl,rfl,rfl,?_⟩
  have e:{E with s:=s}=E:=by
   have:E.s=s:=hσ
   rw[<-this]
  rw[e]at hK
  exact hK
 |some x=>
  obtain⟨b,cap,sp⟩:=x
  obtain⟨h1,h2,h3,h4,h5⟩:=h
  have hs:E.s b=some (.cells (flat l++sp)):=Xa0
  show ye (aP.w α) true E d K (.arr b 0 l.length cap)
  refine .inr ⟨h2,h3,fun _=>⟨rfl,?_,?_⟩,?_⟩
  ·rw[hs];show 0+cap*aP.w α<=_;grind
  ·rw[hs];show _=0+cap*aP.w α;grind
  ·have ho:views (AB.sub (flat l++sp) 0 (l.length*aP.w α))=flat l:=by
    have:=ik l sp (aP.w α) 0 l.length rfl BY
    rw[Nat.zero_mul]at this
    rw[this,List.drop_zero,List.take_length,aH]
   rw[hs]
   show ye.frzK _ _ E d K b l.length (bif decide (0+l.length*aP.w α<=(flat l++sp).length)then some (l.length,views (AB.sub (flat l++sp) 0 (l.length*aP.w α)))else none)
   rw[decide_eq_true (by rw[Nat.zero_add,h4];exact Nat.mul_le_mul_right _ h3),ho]
   have e:E.s.del b=s:=by
    rw[hσ]
    exact jV h1
   show K ({E with s:=E.s.del b}.put d (.sl true _ l.length (flat l)))
   grind
end
end Go.AB
end
