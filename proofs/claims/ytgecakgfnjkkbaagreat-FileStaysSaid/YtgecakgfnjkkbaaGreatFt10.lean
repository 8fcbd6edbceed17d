/- A part. -/
import Derived.Test.YtgecakgfnjkkbaaGreatFt9
import Derived.Test.YtgecakgfnjkkbaaGreatProg
import Derived.KernelRfl
set_option linter.unusedSimpArgs false
set_option linter.unusedVariables false
section
namespace Go.AB
open Go
theorem k7(a b:List AV):views (a++b)=views a++views b:=by simp[views]
theorem uK:∀l:List (List AV),(∀x∈l,views x=x)->views l.flatten=l.flatten
 |[],_=>rfl
 |a::l,h=>by rw[List.flatten_cons,k7,h a List.mem_cons_self,uK l fun x hx=>h x (List.mem_cons_of_mem _ hx)]
class aP(α:Type)where
 w:Nat
 cells:α->List AV
 zero:α
 pos:0<w
 len:∀x,(cells x).length=w
 vw:∀x,views (cells x)=cells x
structure bk where
 b:List UInt8
 deriving DecidableEq,Inhabited
section
variable{α:Type}[aP α]
def flat(l:List α):List AV:=(l.map aP.cells).flatten
def ix(l:List α)(i:Int):α:=l.getD i.toNat aP.zero
theorem aA:∀l:List α,(flat l).length=l.length*aP.w α
 |[]=>by simp[flat]
 |a::l=>by
  have:=aA l
  simp only[flat,List.map_cons,List.flatten_cons,List.length_append,aP.len]at this⊢
  rw[this,List.length_cons,Nat.add_mul,Nat.one_mul,Nat.add_comm]
@[go_sem]theorem px:flat ([]:List α)=[]:=rfl
@[go_sem]theorem lj(a:α)(l:List α):flat (a::l)=aP.cells a++flat l:=rfl
@[go_sem]theorem ep(a b:List α):flat (a++b)=flat a++flat b:=by simp[flat]
@[go_sem]theorem aN(l:List α):views (flat l)=flat l:=uK _ fun x hx=>by
  obtain⟨y,_,rfl⟩:=List.mem_map.1 hx
  exact aP.vw y
theorem x6(l:List α):∀k,(flat l).drop (k*aP.w α)=flat (l.drop k):=by
 induction l with
 |nil=>intro k;simp[flat]
 |cons a l ih=>intro k;cases k with
  |zero=>simp
  |succ k=>
   rw[lj,List.drop_succ_cons,<-ih k,Nat.succ_mul,Nat.add_comm,<-List.drop_drop]
   congr 1
   rw[<-aP.len a,List.drop_left]
theorem sO(l:List α):∀k,(flat l).take (k*aP.w α)=flat (l.take k):=by
 induction l with
 |nil=>intro k;simp[flat]
 |cons a l ih=>intro k;cases k with
  |zero=>simp[px]
  |succ k=>
   rw[lj,List.take_succ_cons,lj,<-ih k,Nat.succ_mul,Nat.add_comm,List.take_append]
   rw[aP.len a,List.take_of_length_le (by rw[aP.len];omega)]
   congr 2
   omega
theorem kK(l:List α)(n lo m:Nat)(hn:n=aP.w α):AB.sub (flat l) (lo*n) (m*n)=flat ((l.drop lo).take m):=by
 subst hn
 unfold AB.sub
 rw[x6,sO]
theorem rM(z:List AV)(n:Nat)(l:List α)(i:Int)(hz:z=aP.cells (aP.zero:α))(hn:n=aP.w α):pad z (views (AB.sub (flat l) (i.toNat*n) n))=aP.cells (ix l i):=by
 subst hn
 have h1:AB.sub (flat l) (i.toNat*aP.w α) (aP.w α)=flat ((l.drop i.toNat).take 1):=by
  have:=kK l (aP.w α) i.toNat 1 rfl
  rwa[Nat.one_mul]at this
 rw[h1,aN]
 unfold pad ix
 rcases Nat.lt_or_ge i.toNat l.length with hlt|hge
 ·rw[List.drop_eq_getElem_cons hlt,List.take_succ_cons,List.take_zero,lj,px,List.append_nil,hz,aP.len,aP.len,beq_self_eq_true]
  simp[List.getD,List.getElem?_eq_getElem hlt]
 ·rw[List.drop_eq_nil_of_le hge,List.take_nil,px,hz,aP.len]
  have:(([]:List AV).length==aP.w α)=false:=by
   have:=aP.pos (α:=α)
   simp;omega
  rw[this]
  simp[List.getD,List.getElem?_eq_none hge]
def part(l:List α)(lo hi:Int):List α:=(l.drop lo.toNat).take (hi -lo).toNat
theorem Eb(n:Nat)(l:List α)(lo hi:Int)(hn:n=aP.w α):AB.sub (flat l) (lo.toNat*n) ((hi -lo).toNat*n)=flat (part l lo hi):=kK l n _ _ hn
theorem Qp(n:Nat)(l:List α)(hn:n=aP.w α):(flat l).length/n=l.length:=by
 subst hn
 rw[aA];exact Nat.mul_div_cancel _ aP.pos
end
instance:aP Bool:=⟨1,fun b=>[.bool b],false,Nat.one_pos,fun _=>rfl,fun _=>rfl⟩
instance:aP Int:=⟨1,fun n=>[.int .i64 n],0,Nat.one_pos,fun _=>rfl,fun _=>rfl⟩
instance:aP UInt8:=⟨1,fun n=>[.int .u8 n.toNat],0,Nat.one_pos,fun _=>rfl,fun _=>rfl⟩
instance:aP UInt32:=⟨1,fun n=>[.int .u32 n.toNat],0,Nat.one_pos,fun _=>rfl,fun _=>rfl⟩
instance:aP UInt64:=⟨1,fun n=>[.int .u64 n.toNat],0,Nat.one_pos,fun _=>rfl,fun _=>rfl⟩
instance:aP bk:=⟨1,fun s=>[.str s.b],⟨[]⟩,Nat.one_pos,fun _=>rfl,fun _=>rfl⟩
instance{α:Type}[aP α]:aP (List α):=⟨1,fun l=>[.sl false (aP.w α) l.length (flat l)],[],Nat.one_pos,fun _=>rfl,fun _=>rfl⟩
@[go_sem]theorem aaX(x:Int):aP.cells x=[.int .i64 x]:=rfl
@[go_sem]theorem acw(x:UInt8):aP.cells x=[.int .u8 x.toNat]:=rfl
@[go_sem]theorem aiA:aP.w Int=1:=rfl
@[go_sem]theorem ajf:aP.w UInt8=1:=rfl
@[go_sem]theorem Vf(l:List Int)(i:Int):pad [.int .i64 0] (views (AB.sub (flat l) (i.toNat*1) 1))=[.int .i64 (ix l i)]:=rM _ 1 l i rfl rfl
@[go_sem]theorem RX(l:List UInt8)(i:Int):pad [.int .u8 0] (views (AB.sub (flat l) (i.toNat*1) 1))=[.int .u8 (ix l i).toNat]:=rM _ 1 l i rfl rfl
def ok{α:Type}(o:Option α)(K:α->Prop):Prop:=∃a,o=some a/\K a
def bt{α:Type}(c:Prop)[Decidable c](o:Option α):Option α:=if c then o else none
def jv{α:Type}(g:Bool)(z:α)(o:Option α):Option α:=bif g then o else some z
def bn{α β:Type}(o:Option α)(f:α->Option β):Option β:=match o with
 |some a=>f a
 |none=>none
def ch{S O:Type}(body:S->Option (S⊕O)):Nat->S->Option O
 |0,_=>none
 |n+1,s=>match body s with
  |none=>none
  |some (.inl t)=>ch body n t
  |some (.inr o)=>some o
def iter{S O:Type}(body:S->Option (S⊕O))(s:S):Option O:=ch body 18446744073709551616 s
def kF{A B C:Type}(f:A->C)(g:B->C):A⊕B->C
 |.inl a=>f a
 |.inr b=>g b
section
variable{α β:Type}(K:α->Prop)
@[go_sem]theorem bO(a:α):ok (some a) K=K a:=by simp[ok]
@[go_sem]theorem ok_none:ok none K=False:=by simp[ok]
@[go_sem]theorem ir(c:Prop)[Decidable c](o:Option α):ok (bt c o) K=(c/\ok o K):=by grind [bt,ok]
@[go_sem]theorem j4(o:Option β)(f:β->Option α):ok (bn o f) K=ok o (fun b=>ok (f b) K):=by cases o<;>simp[bn,ok]
@[go_sem]theorem RL(c:Bool)(a b:Option α):ok (if c=true then a else b) K=((c=true->ok a K)/\(c=false->ok b K)):=by grind
theorem U8(g:Bool)(z:α)(o:Option α):ok (jv g z o) K=∃a,(g=true->o=some a)/\(g=false->a=z)/\K a:=by grind [jv,ok]
@[go_sem]theorem oe{A B C:Type}(f:A->C)(g:B->C)(a:A):kF f g (.inl a)=f a:=rfl
@[go_sem]theorem Af{A B C:Type}(f:A->C)(g:B->C)(b:B):kF f g (.inr b)=g b:=rfl
end
theorem cI{A B C D:Prop}(h:A->C)(k:B->D):A/\B->C/\D:=fun x=>⟨h x.1,k x.2⟩
theorem er{p A B:Prop}(h:A->B):(p->A)->p->B:=fun x y=>h (x y)
theorem dQ{A:Prop}:A->A:=fun h=>h
variable{P:Program}
theorem aQ{β:Type}{o:Option β}{kf:β->Prop}{f:FuncId}{as1:List AV}{s:ae}{enc:β->List AV}{Q:List AV->ae->Prop}
 (hf:∀r,o=some r->FE P f as1 s (enc r) s)(hk:∀r,kf r->Q (enc r) s):ok o kf->FN P f as1 s Q:=fun⟨r,h,k⟩=>FE.app (hf r h) (hk r k)
theorem cY{β:Type}{o:Option β}{kf:β->Prop}{f:FuncId}{as1:List AV}{s:ae}{enc:β->List AV}{Q:List AV->Prop}
 (hf:∀r,o=some r->FE P f as1 s (enc r) s)(hr:∀r,jA (enc r)=true)(hk:∀r,kf r->Q (enc r)):ok o kf->∃rs,jA rs=true/\FE P f as1 s rs s/\Q rs:=
 fun⟨r,h,k⟩=>⟨enc r,hr r,hf r h,hk r k⟩
theorem jk{β:Type}{g:Bool}{z:β}{o:Option β}{kf:β->Prop}{f:FuncId}{as1:Option (List AV)}{as2:List AV}{s:ae}{enc:β->List AV}{Q:List AV->Prop}
 (ha:as1=some as2)(hf:∀r,o=some r->FE P f as2 s (enc r) s)(hr:∀r,jA (enc r)=true)(hk:∀r,kf r->Q (enc r)):
 ok (jv g z o) kf->∃rs,jA rs=true/\(g=true->∃as2,as1=some as2/\FE P f as2 s rs s)/\Q rs:=fun h=>by
 grind [U8]
def okj{α:Type}(o:Option α)(K:α->Prop):Prop:=ok o K
def jn{α β:Type}(o:Option α)(f:α->Option β):Option β:=bn o f
@[go_sem]theorem ail{α β:Type}(K:α->Prop)(o:Option β)(f:β->Option α):ok (jn o f) K=okj o (fun b=>ok (f b) K):=j4 ..
theorem eJ{X:Type}{M:Option X}{kf:X->Prop}{live:List (Nat×Bool)}{a b:IC}{Q:Exit->St->Prop}{E:St}(enc:X->St)
 (ha:∀J:St->Prop,ok M (fun x=>J (enc x))->fD P a (og live J Q) E)(hb:∀x,kf x->fD P b Q (enc x)):okj M kf->fD P (.join live a b) Q E:=fun⟨x,h,k⟩=>
 ⟨fun τ=>∃x,τ=enc x/\kf x,ha _ ⟨x,h,x,rfl,k⟩,fun _⟨x,e,k⟩=>e▸hb x k⟩
theorem qw{S O:Type}{body:S->Option (S⊕O)}{s:S}{K:O->Prop}:¬ok (ch body 0 s) K:=fun⟨_,h,_⟩=>by cases h
theorem qu{S O:Type}{body:S->Option (S⊕O)}{n:Nat}{s:S}{K:O->Prop}(h:ok (ch body (n+1) s) K):ok (body s) (kF (fun t=>ok (ch body n t) K) K):=by
 obtain⟨o,h,k⟩:=h
 unfold ch at h
 cases hb:body s with
 |none=>grind
 |some x=>
  rw[hb]at h
  cases x with
  |inl t=>exact⟨_,rfl,⟨o,h,k⟩⟩
  |inr o'=>cases h;exact⟨_,rfl,k⟩
theorem vy{live:List (Nat×Bool)}{I:St->Prop}{μ:St->Nat}{m:Nat}{Q:Exit->St->Prop}:EA live I μ m Q=og live (fun ρ=>I ρ/\μ ρ<m) Q:=by rfl
theorem ed{S O:Type}{body:S->Option (S⊕O)}{s0:S}{kf:O->Prop}{live:List (Nat×Bool)}{b:IC}{Q:Exit->St->Prop}{E:St}(enc:S->St)
 (h0:E.eQ live=enc s0)
 (hb:∀(J:St->Prop)(s:S),ok (body s) (kF (fun t=>J (enc t)) kf)->fD P b (og live J Q) (enc s)):ok (iter body s0) kf->fD P (.loop live b) Q E:=by
 intro h
 have wP:∀τ,(∃m s,τ=enc s/\ok (ch body m s) kf)->∃m,(∃s,τ=enc s/\ok (ch body m s) kf)/\∀k,k<m->¬∃s,τ=enc s/\ok (ch body k s) kf:=by
  rintro τ ⟨m,s,h⟩
  induction m using Nat.strongRecOn generalizing s with
  |_ m ih=>grind
 have hμ:∃μ:St->Nat,∀τ,(∃m s,τ=enc s/\ok (ch body m s) kf)->(∃s,τ=enc s/\ok (ch body (μ τ) s) kf)/\∀k,k<μ τ->¬∃s,τ=enc s/\ok (ch body k s) kf:=by exact⟨fun τ=>Classical.epsilon fun m=>(∃s,τ=enc s/\ok (ch body m s) kf)/\∀k,k<m->¬∃s,τ=enc s/\ok (ch body k s) kf,fun τ hτ=>Classical.epsilon_spec (wP τ hτ)⟩
 obtain⟨μ,hμ⟩:=hμ
 refine⟨fun τ=>∃m s,τ=enc s/\ok (ch body m s) kf,μ,?_,?_⟩
 ·exact⟨_,s0,h0,h⟩
 ·intro τ hτ
  obtain⟨⟨s,e,hs⟩,_⟩:=hμ τ hτ
  generalize hm:μ τ=m at hs
  cases m with
  |zero=>grind [qw]
  |succ m=>
   subst e
   rw[vy]
   obtain⟨x,hx,k⟩:=qu hs
   refine hb _ s ⟨x,hx,?_⟩
   cases x with
   |inr o=>exact k
   |inl t=>
    refine⟨⟨m,t,rfl,k⟩,?_⟩
    have h2:=(hμ (enc t) ⟨m,t,rfl,k⟩).2
    rcases Nat.lt_or_ge m (μ (enc t))with hlt|hge
    ·exact(h2 m hlt ⟨t,rfl,k⟩).elim
    ·omega
theorem wX{S O:Type}{body:S->Option (S⊕O)}{s0:S}{kf:O->Prop}{live:List (Nat×Bool)}{l:Nat}{r:IC}{Q:Exit->St->Prop}{E:St}(enc:S->St)
 (h0:E=enc s0)
 (hb:∀(J:St->Prop)(s:S),ok (body s) (kF (fun t=>J (enc t)) kf)->fD P r (Gq l live J Q) (enc s)):ok (iter body s0) kf->Tz P l live r Q E:=by
 intro h
 have wP:∀τ,(∃m s,τ=enc s/\ok (ch body m s) kf)->∃m,(∃s,τ=enc s/\ok (ch body m s) kf)/\∀k,k<m->¬∃s,τ=enc s/\ok (ch body k s) kf:=by
  rintro τ ⟨m,s,h⟩
  induction m using Nat.strongRecOn generalizing s with
  |_ m ih=>grind
 have hμ:∃μ:St->Nat,∀τ,(∃m s,τ=enc s/\ok (ch body m s) kf)->(∃s,τ=enc s/\ok (ch body (μ τ) s) kf)/\∀k,k<μ τ->¬∃s,τ=enc s/\ok (ch body k s) kf:=by exact⟨fun τ=>Classical.epsilon fun m=>(∃s,τ=enc s/\ok (ch body m s) kf)/\∀k,k<m->¬∃s,τ=enc s/\ok (ch body k s) kf,fun τ hτ=>Classical.epsilon_spec (wP τ hτ)⟩
 obtain⟨μ,hμ⟩:=hμ
 refine⟨fun τ=>∃m s,τ=enc s/\ok (ch body m s) kf,μ,?_,?_⟩
 ·exact⟨_,s0,h0,h⟩
 ·intro τ hτ
  obtain⟨⟨s,e,hs⟩,_⟩:=hμ τ hτ
  generalize hm:μ τ=m at hs
  cases m with
  |zero=>grind [qw]
  |succ m=>
   subst e
   obtain⟨x,hx,k⟩:=qu hs
   refine hb _ s ⟨x,hx,?_⟩
   cases x with
   |inr o=>exact k
   |inl t=>
    refine⟨⟨m,t,rfl,k⟩,?_⟩
    have h2:=(hμ (enc t) ⟨m,t,rfl,k⟩).2
    rcases Nat.lt_or_ge m (μ (enc t))with hlt|hge
    ·exact(h2 m hlt ⟨t,rfl,k⟩).elim
    ·omega
def rA{X Y α:Type}(M:Option (X⊕Y))(F:X->Option α)(G:Y->Option α):Option α:=match M with
 |some (.inl x)=>F x
 |some (.inr y)=>G y
 |none=>none
@[go_sem]theorem U7{X Y α:Type}(M:Option (X⊕Y))(F:X->Option α)(G:Y->Option α)(K:α->Prop):ok (rA M F G) K=ok M (kF (fun x=>ok (F x) K) (fun y=>ok (G y) K)):=by
  cases M with
  |none=>simp[rA,ok]
  |some x=>grind [rA,ok,kF]
def Dt{X Y α:Type}(M:Option (X⊕Y))(F:X->Option α)(G:Y->Option α):Option α:=rA M F G
@[go_sem]theorem ahn{X Y α:Type}(M:Option (X⊕Y))(F:X->Option α)(G:Y->Option α)(K:α->Prop):ok (Dt M F G) K=okj M (kF (fun x=>ok (F x) K) (fun y=>ok (G y) K)):=U7 ..
theorem fF{X Y:Type}{M:Option (X⊕Y)}{kf:X->Prop}{kr:Y->Prop}{live:List (Nat×Bool)}{a b:IC}{Q:Exit->St->Prop}{E:St}(enc:X->St)
 (ha:∀J:St->Prop,ok M (kF (fun x=>J (enc x)) kr)->fD P a (og live J Q) E)(hb:∀x,kf x->fD P b Q (enc x)):okj M (kF kf kr)->fD P (.join live a b) Q E:=fun⟨x,h,k⟩=>by
 refine⟨fun τ=>∃x,τ=enc x/\kf x,ha _ ⟨x,h,?_⟩,fun _⟨x,e,k⟩=>e▸hb x k⟩
 cases x with
 |inl x=>exact⟨x,rfl,k⟩
 |inr y=>exact k
@[go_sem]theorem NO(c:UInt8):byteOf (.int .u8 c.toNat)=some c:=by
  unfold byteOf
  have:=c.toNat_lt
  simp only
  rw[if_pos (by omega)]
  simp
@[go_sem]theorem Fp:∀l:List UInt8,bytesOf (flat l)=some l
  |[]=>rfl
  |c::l=>by
   show P1 (byteOf (.int .u8 c.toNat)) (bytesOf (flat l))=_
   rw[NO,Fp l];rfl
def aC(n:Int):Int:=IntKind.i64.wrap n
def iM(n:Int):UInt8:=UInt8.ofNat (IntKind.u8.wrap n).toNat
def dF(n:Int):UInt32:=UInt32.ofNat (IntKind.u32.wrap n).toNat
def VZ(n:Int):UInt64:=UInt64.ofNat (IntKind.u64.wrap n).toNat
@[go_sem]theorem ae9(n:Int):jx .i64 n=aC n:=rfl
theorem Cw(k:IntKind)(n:Int)(hk:k.signed=false):k.wrap n=n % (2^k.bits:Int):=by grind [IntKind.wrap]
@[go_sem]theorem wrap_u8(n:Int):jx .u8 n=(iM n).toNat:=by
  show IntKind.u8.wrap n=((UInt8.ofNat (IntKind.u8.wrap n).toNat).toNat)
  rw[Cw _ _ rfl,UInt8.toNat_ofNat']
  have:(2^IntKind.u8.bits)=256:=by rfl
  grind
@[go_sem]theorem wrap_u32(n:Int):jx .u32 n=(dF n).toNat:=by
  show IntKind.u32.wrap n=((UInt32.ofNat (IntKind.u32.wrap n).toNat).toNat)
  rw[Cw _ _ rfl,UInt32.toNat_ofNat']
  have:(2^IntKind.u32.bits)=4294967296:=by rfl
  grind
@[go_sem]theorem wrap_u64(n:Int):jx .u64 n=(VZ n).toNat:=by
  show IntKind.u64.wrap n=((UInt64.ofNat (IntKind.u64.wrap n).toNat).toNat)
  rw[Cw _ _ rfl,UInt64.toNat_ofNat']
  have:(2^IntKind.u64.bits)=18446744073709551616:=by rfl
  grind
def kC(k:IntKind)(a b:Int):Int:=a*2^(min b.toNat k.bits)
def j8(k:IntKind)(a b:Int):Int:=a.fdiv (2^(min b.toNat k.bits))
def oH(k:IntKind)(a b:Int):Int:=(BitVec.ofInt k.bits a&&&BitVec.ofInt k.bits b).toNat
def Ht(k:IntKind)(a b:Int):Int:=(BitVec.ofInt k.bits a |||BitVec.ofInt k.bits b).toNat
def We(k:IntKind)(a b:Int):Int:=(BitVec.ofInt k.bits a^^^BitVec.ofInt k.bits b).toNat
def vZ(k:IntKind)(a b:Int):Int:=(BitVec.ofInt k.bits a&&& ~~~BitVec.ofInt k.bits b).toNat
@[go_sem]theorem acj(k k':IntKind)(a b:Int):rf .shl k k' a b=.prt (0<=b) (.int k (jx k (kC k a b))):=rfl
@[go_sem]theorem ack(k k':IntKind)(a b:Int):rf .shr k k' a b=.prt (0<=b) (.int k (j8 k a b)):=rfl
@[go_sem]theorem aci(k k':IntKind)(a b:Int):rf .and k k' a b=kk k k' (.cQ (.int k (jx k (oH k a b)))):=rfl
@[go_sem]theorem afg(k k':IntKind)(a b:Int):rf .or k k' a b=kk k k' (.cQ (.int k (jx k (Ht k a b)))):=rfl
@[go_sem]theorem acm(k k':IntKind)(a b:Int):rf .xor k k' a b=kk k k' (.cQ (.int k (jx k (We k a b)))):=rfl
@[go_sem]theorem Wr(k k':IntKind)(a b:Int):rf .andNot k k' a b=kk k k' (.cQ (.int k (jx k (vZ k a b)))):=rfl
@[go_sem]theorem afn(l:List UInt8)(k:Int):l.getD k.toNat 0=ix l k:=rfl
@[go_sem]theorem afC(l:List UInt8)(lo hi:Int):(l.drop lo.toNat).take (hi -lo).toNat=part l lo hi:=rfl
attribute[go_sem] List.length_append true_or or_true eq_self_iff_true imp_self Bool.cond_true_left Bool.cond_false_right and_self and_true
def mv(d x:Nat):aq:=⟨some d,.oj false (.t x),none⟩
def mt(d x:Nat):aq:=⟨some d,.oj true (.t x),none⟩
def mvg(d x t:Nat)(w:Bool):aq:=⟨some d,.oj false (.t x),some (t,w)⟩
def mtg(d x t:Nat)(w:Bool):aq:=⟨some d,.oj true (.t x),some (t,w)⟩
def i1(d:Nat)(o:qN):aq:=⟨some d,o,none⟩
def i1g(d t:Nat)(w:Bool)(o:qN):aq:=⟨some d,o,some (t,w)⟩
def i0(o:qN):aq:=⟨none,o,none⟩
def i0g(t:Nat)(w:Bool)(o:qN):aq:=⟨none,o,some (t,w)⟩
attribute[go_sem] mv mt mvg mtg i1 i1g i0 i0g
@[go_sem]theorem aeJ(a:AV)(l:List AV)(off n:Nat):AB.sub (a::l) off n=((a::l).drop off).take n:=rfl
attribute[go_sem] Eb Qp
@[go_sem]theorem Zn(E:St)(b:Bool)(a:AV)(d:Option Nat):bZ E (.when b a) d=bZ E a d:=by rfl
end Go.AB
end
section
namespace Go.AB
open Go
def uO(t s:ae):Prop:=∀b o,t b=some o->s b=some o
theorem uO.refl(s:ae):uO s s:=fun _ _ h=>h
theorem uO.set{t s:ae}{b:Nat}{o:SO}(h:uO t s)(hb:t b=none):uO t (s.set b o):=fun c p hc=>by
 unfold ae.set
 by_cases hcb:c=b
 ·grind
 ·rw[if_neg hcb];exact h c p hc
variable{P:Program}
theorem FN.forget{f:FuncId}{args:List AV}{s:ae}{Q:List AV->ae->Prop}(h:FN P f args s fun rs t=>∃t',uO t' t/\Q rs t'):FN P f args s Q:=by
 intro G w vs h1 h2 h3 h4
 refine(h G w vs h1 h2 h3 h4).mono fun e w'⟨v,rs,s',G',a1,⟨t',ht,hq⟩,a3,a4,a5⟩=>⟨v,rs,t',G',a1,hq,a3,fun b o hb=>a4 b o (ht b o hb),a5⟩
theorem cg(s:ae)(b:Nat)(o:SO):(s.set b o) b=some o:=by simp[ae.set]
theorem ai{s:ae}{b c:Nat}{o:SO}(h:c≠b):(s.set b o) c=s c:=by simp[ae.set,h]
theorem set_set(s:ae)(b:Nat)(o p:SO):(s.set b o).set b p=s.set b p:=by grind [ae.set]
theorem set_comm{a b:Nat}(h:a≠b){s:ae}{o p:SO}:(s.set b p).set a o=(s.set a o).set b p:=by grind [ae.set]
theorem aap{s:ae}{b:Nat}{o:SO}(h:s b=some o):s=s.set b o:=by grind [ae.set]
theorem bj{s:ae}{b:Nat}{o:SO}(h:s b=some o):s.set b o=s:=(aap h).symm
theorem eT(s:ae)(b c:Nat)(o:SO):((s.set b o) c=none)=(c≠b/\s c=none):=by grind [ae.set]
attribute[go_sem] cg set_set
theorem aK{α:Type}{o:Option α}{K K':α->Prop}(h:ok o K)(hk:∀r,K r->K' r):ok o K':=h.imp fun r⟨h1,h2⟩=>⟨h1,hk r h2⟩
section
variable(Q:Exit->St->Prop)(E τ:St)
@[go_sem]theorem aaZ(b:IC):fD P (.scope b) Q E=fD P b (vN Q) E:=by
  have:(fun x τ=>match x with|.goto _=>False|x=>Q x τ)=vN Q:=by funext e τ;cases e<;>rfl
  show fD P b (fun x τ=>match x with|.goto _=>False|x=>Q x τ) E=_
  rw[this]
@[go_sem]theorem aan:vN Q .ret τ=Q .ret τ:=rfl
@[go_sem]theorem XM(i:Nat):vN Q (.exit i) τ=Q (.exit i) τ:=rfl
end
def Ad(sz len n:Nat)(x:IX):AV->PR
 |.lp d o=>.prt (n+1<=len) (.lp d (o+n*sz))
 |.sp cs=>bif decide (len*sz<=cs.length)then .prt (n+1<=len) (.sp (cs.drop (n*sz)))else .no
 |.ref b o=>.prt (n+1<=len) (.ref b (o+n*sz))
 |.loc _=>Ow (n+1<=len) (n*sz) x
 |_=>.no
attribute[go_sem] Ad.eq_1 Ad.eq_2 Ad.eq_3 Ad.eq_4
def Hl{α:Type}(l:List α)(i:Int)(x:α):List α:=l.take i.toNat++[x]++l.drop (i.toNat+1)
theorem Is{α:Type}[aP α](l:List α)(i:Int)(x:α)(n:Nat)(hn:n=aP.w α):setAt (flat l) (i.toNat*n) (aP.cells x)=flat (Hl l i x):=by
 subst hn
 unfold setAt Hl
 rw[ep,ep,lj,px,List.append_nil,sO,aP.len]
 rw[show i.toNat*aP.w α+aP.w α=(i.toNat+1)*aP.w α from by grind,x6]
@[go_sem]theorem af8(l:List UInt32)(i:Int)(x:UInt32):setAt (flat l) (i.toNat*1) [.int .u32 x.toNat]=flat (Hl l i x):=Is l i x 1 rfl
@[go_sem]theorem aao(a:AV)(l:List AV)(off:Nat)(news:List AV):setAt (a::l) off news=(a::l).take off++news++(a::l).drop (off+news.length):=rfl
@[go_sem]theorem ad3(z:List AV)(a:AV)(l:List AV):pad z (a::l)=bif(a::l).length==z.length then a::l else z:=rfl
@[go_sem]theorem BX{α:Type}[aP α](n:Nat)(z:α):(List.replicate n (aP.cells z)).flatten=flat (List.replicate n z):=by simp[flat]
section
variable{d d':Option Nat}{K:St->Prop}{E:St}{b off:Nat}{news iJ:List AV}
@[go_sem]theorem afY:Pt d K (wrS E b (fp off news iJ))=(off+news.length<=iJ.length/\K (({E with s:=E.s.set b (.cells (setAt iJ off news))}:St).put d (.iL []))):=by grind [fp,wrS,Pt]
@[go_sem]theorem afX{i:Nat}:Pt d K (wrL E i (fp off news iJ))=(off+news.length<=iJ.length/\K ((E.put (some i) (.loc (setAt iJ off news))).put d (.iL []))):=by grind [fp,wrL,Pt]
end
@[go_sem]theorem Xh(n:Nat):(((no_index (OfNat.ofNat n)):Nat):Int)=OfNat.ofNat n:=rfl
def agu{κ ν:Type}(ek:κ->AV)(ev:ν->AV)(m:List (κ×ν)):List (AV×AV):=m.map fun p=>(ek p.1,ev p.2)
section
variable{κ ν:Type}[BEq κ]{ek:κ->AV}{ev:ν->AV}
end
theorem pG(a b:Int):wY (.int .i64 a) (.int .i64 b)=(a==b):=by simp[wY,cellsOf,qx,Ri]
attribute[go_sem] xd.eq_1
theorem an{κ ν:Type}(ek:κ->AV)(ev:ν->AV):agu ek ev []=[]:=rfl
@[go_sem]theorem afT(n:Nat):(List.replicate n [AV.int .i64 0]).flatten=flat (List.replicate n (0:Int)):=BX n (0:Int)
@[go_sem]theorem ahC(n:Nat):(List.replicate n [AV.int .u8 0]).flatten=flat (List.replicate n (0:UInt8)):=BX n (0:UInt8)
@[go_sem]theorem afU(n:Nat):(List.replicate n [AV.int .u32 0]).flatten=flat (List.replicate n (0:UInt32)):=BX n (0:UInt32)
end Go.AB
end
section
namespace Go.AB
open Go
attribute[go_sem] start qJ kp sm Sq qf vJ Nat.ble_eq
theorem mix:Go.Proofs.Tryz.prog.follows .mixedOrders=true:=by kernel_rfl
theorem bL:((true=false)=False)/\((false=true)=False)/\(∀p:Prop,(False->p)=True)/\(∀p:Prop,(True->p)=p)/\(∀p:Prop,(True/\p)=p)/\(∀p:Prop,(p/\True)=p)/\((!true)=false)/\((!false)=true)/\(∀b,(true||b)=true)/\(∀b,(false||b)=b):=by simp
abbrev FF{α:Type}(f:Nat)(args:List AV)(m:Option α)(g:α->List AV):Prop:=∀{s:ae}{Q:List AV->ae->Prop},ok m (fun r=>Q (g r) s)->FN Go.Proofs.Tryz.prog f args s Q
theorem FP{f:Nat}{args:List AV}{s:ae}{Q:List AV->ae->Prop}(n:Nat)(res:List jB)(ic:IC)(hf:eH Go.Proofs.Tryz.prog f n res ic=true)(hv:(qf args&&Nat.ble args.length n)=true)(hw:fD Go.Proofs.Tryz.prog ic (vJ res Q) (start args s)):FN Go.Proofs.Tryz.prog f args s Q:=FN.of (jO mix) hf (Bool.and_eq_true_iff.1 hv).1 (Nat.le_of_ble_eq_true (Bool.and_eq_true_iff.1 hv).2) hw
theorem FS{f:Nat}{args:List AV}{s:ae}{Q:List AV->ae->Prop}{Z:Prop}(n:Nat)(res:List jB)(num:Nat)(z:Z)(hf:eH Go.Proofs.Tryz.prog f n res (dec num)=true:=by kernel_rfl)(hv:(qf args&&Nat.ble args.length n)=true:=by rfl)(e:Z->fD Go.Proofs.Tryz.prog (dec num) (vJ res Q) (start args s):=by intro h;(conv in dec _=>reduce);exact h):FN Go.Proofs.Tryz.prog f args s Q:=FP n res (dec num) hf hv (e z)
theorem FR{f:Nat}{args:List AV}{s:ae}{Q:List AV->ae->Prop}{X Z C:Prop}(n:Nat)(res:List jB)(num:Nat)(m:C)(z:Z)(hf:eH Go.Proofs.Tryz.prog f n res (dec num)=true:=by kernel_rfl)(hv:(qf args&&Nat.ble args.length n)=true:=by rfl)(e:C->Z->X->fD Go.Proofs.Tryz.prog (dec num) (vJ res Q) (start args s):=by intro m h;(conv in dec _=>reduce);rw[m];exact h):X->FN Go.Proofs.Tryz.prog f args s Q:=fun x=>FP n res (dec num) hf hv (e m z x)
theorem FC{f:Nat}{args:List AV}{s:ae}{Q:List AV->ae->Prop}{X C:Prop}(n:Nat)(res:List jB)(num:Nat)(m:C)(hf:eH Go.Proofs.Tryz.prog f n res (dec num)=true:=by kernel_rfl)(hv:(qf args&&Nat.ble args.length n)=true:=by rfl)(e:C->X->fD Go.Proofs.Tryz.prog (dec num) (vJ res Q) (start args s):=by intro m;(conv in dec _=>reduce);rw[m];repeat'(first|simp -implicitDefEqProofs only[go_sem,seval])):X->FN Go.Proofs.Tryz.prog f args s Q:=fun x=>FP n res (dec num) hf hv (e m x)
theorem kc{α:Type}{m:Option α}{f:Nat}{args:List AV}{s:ae}{g:α->List AV}{k:α->ae}{r:α}(hf:∀{Q:List AV->ae->Prop},ok m (fun r=>Q (g r) (k r))->FN Go.Proofs.Tryz.prog f args s Q)(h:m=some r):FE Go.Proofs.Tryz.prog f args s (g r) (k r):=hf ⟨r,h,rfl,rfl⟩
theorem FO{f n:Nat}{res:List jB}{ic:IC}{args:List AV}{s:ae}{Q:List AV->ae->Prop}(hf:eH Go.Proofs.Tryz.prog f n res ic=true)(hv:qf args=true)(hn:Nat.ble args.length n=true)(hw:fD Go.Proofs.Tryz.prog ic (vJ res Q) (start args s)):FN Go.Proofs.Tryz.prog f args s Q:=FN.of (jO mix) hf hv (Nat.le_of_ble_eq_true hn) hw
def ma(G G2:Gh):Prop:=∀b,G.R b<=G2.R b/\(G.O b≠.sh->G2.O b=G.O b/\G2.R b=G.R b)
theorem FN.conv{P:Program}{f:FuncId}{args:List AV}{s:ae}{Q Q':List AV->ae->Prop}(h:FN P f args s Q)
 (k:∀rs s',Q rs s'->∀G w v,cq G w->a8 G w s'->mB G w rs v->∃rs2 s2 G2,Q' rs2 s2/\ma G G2/\cq G2 w/\a8 G2 w s2/\mB G2 w rs2 v):FN P f args s Q':=by
 intro G w vs h1 h2 h3 h4
 refine(h G w vs h1 h2 h3 h4).mono fun e w'⟨v,rs,s',G',a,hq,hg,hs,hr,hp⟩=>?_
 obtain⟨rs2,s2,G2,k1,k2,k3,k4,k5⟩:=k rs s' hq G' w' v hg hs hr
 refine⟨v,rs2,s2,G2,a,k1,k3,k4,k5,hp.os,hp.tape,hp.output,hp.drawn,hp.size,fun b hb=>Nat.le_trans (hp.mono b hb) (k2 b).1,hp.mj,hp.frame,fun b hb ho=>?_,fun b hb ho=>?_⟩
 ·obtain⟨q1,q2⟩:=hp.jy b hb ho
  obtain⟨q3,q4⟩:=(k2 b).2 (by grind)
  grind
 ·obtain⟨q1,q2⟩:=hp.pN b hb ho
  obtain⟨q3,q4⟩:=(k2 b).2 (by grind)
  grind
section
variable{G:Gh}{w:World}{s:ae}{b:Nat}
theorem Nl(h:a8 G w s)(hg:cq G w){cs:List AV}(hs:s b=some (.cells cs))(r:Nat):
 ma G (G.nS b (.res 0) r)/\cq (G.nS b (.res 0) r) w/\a8 (G.nS b (.res 0) r) w (s.del b)/\(∀a v,VR w G.R a v->VR w (G.nS b (.res 0) r).R a v):=by
 obtain⟨q2,q3,c,t,q4,q5,q6⟩:=h b _ hs
 have hR:∀b',G.R b'<=(G.nS b (.res 0) r).R b':=fun b'=>by
  by_cases hb:b'=b
  ·grind
  ·simp[hb]
 have hv:∀a v,VR w G.R a v->VR w (G.nS b (.res 0) r).R a v:=fun a v h=>h.mono hR fun _ _ _=>rfl
 have same:∀b',b'≠b->(G.nS b (.res 0) r).O b'=G.O b'/\(G.nS b (.res 0) r).R b'=G.R b':=fun b' hb'=>⟨by simp_all,by simp_all⟩
 have hlt:=hg.lt (by rw[q2];simp)
 refine⟨fun b'=>⟨hR b',fun hb'=>same b' fun e=>by grind⟩,⟨fun b' hb'=>?_,fun b' hb'=>?_⟩,?_,hv⟩
 ·have:b'≠b:=by omega
  rw[(same b' this).1,hg.jJ b' hb']
 ·have:b'≠b:=by omega
  rw[(same b' this).2,hg.kB b' hb']
 ·intro b' o hb'
  unfold ae.del at hb'
  split at hb'
  ·cases hb'
  ·rename_i hne
   obtain⟨r1,r2,r3⟩:=h b' o hb'
   refine⟨(same b' hne).1.trans r1,(same b' hne).2.trans r2,?_⟩
   cases o with
   |cells cs'=>
    obtain⟨c',t',r4,r5,r6⟩:=r3
    exact⟨c',t',r4,r5.mono hv (fun b'' j tL=>by grind),r6⟩
   |map es=>
    obtain⟨jm,clock,r4,r5,r6⟩:=r3
    exact⟨jm,clock,r4,r5,fun j x y hx hy=>⟨hv _ _ (r6 j x y hx hy).1,hv _ _ (r6 j x y hx hy).2⟩⟩
theorem Vd(h:a8 G w s)(hg:cq G w){n cap sz:Nat}{cs sp:List AV}{v:Value}(hs:s b=some (.cells (cs++sp)))(hc:0<cap)(hn:n<=cap)(hl:(cs++sp).length=cap*sz)(hl2:cs.length=n*sz)(hvw:views (cs++sp)=cs++sp)
 (hr:mB G w [.arr b 0 n cap] v):∃G2,ma G G2/\cq G2 w/\a8 G2 w (s.del b)/\mB G2 w [.us sz n cs] v:=by
 obtain⟨k1,k2,k3,k4⟩:=Nl h hg hs 0
 obtain⟨q2,q3,c,t,q4,q5,q6⟩:=h b _ hs
 refine⟨_,k1,k2,k3,.inr ⟨b,cap,c,t,sp,hc,hn,VR.qt hr.1 hc,by simp,by simp,q4,by rw[q5.1,hl],hl2,hl,fun j x u hx hu=>k4 _ _ (q5.2 j x u hx hu).1,q6.flat hvw,hvw⟩⟩
theorem RU{sz:Nat}{v:Value}(hr:mB G w [.arr b 0 0 0] v):mB G w [.us sz 0 []] v:=by
 rcases VR.cP hr.1 with e|⟨_,_,e⟩
 ·exact .inl ⟨rfl,rfl,.inr ⟨b,0,e⟩⟩
 ·exact .inl ⟨rfl,rfl,.inl e⟩
theorem M4(h:a8 G w s)(hg:cq G w){n cap sz:Nat}{cs sp:List AV}{v:Value}(hs:s b=some (.cells (cs++sp)))(hc:0<cap)(hn:n<=cap)(hl:(cs++sp).length=cap*sz)(hl2:cs.length=n*sz)(hvw:views cs=cs)
 (hr:mB G w [.arr b 0 n cap] v):∃G2,ma G G2/\cq G2 w/\a8 G2 w (s.del b)/\mB G2 w [.sl true sz n cs] v:=by
 obtain⟨k1,k2,k3,k4⟩:=Nl h hg hs (n*sz)
 obtain⟨q2,q3,c,t,q4,q5,q6⟩:=h b _ hs
 have e:=VR.qt hr.1 hc
 refine⟨_,k1,k2,k3,?_,?_⟩
 ·rw[e]
  refine .sl true sz n cs b 0 cap (fun j=>c.getD j undef) (q6.left.flat hvw) hl2 (by simp_all) hn (fun j x hj=>?_) (fun j x hj=>?_)
  all_goals
   have hj':(cs++sp)[j]? =some x:=by grind
   have hlt:j<c.size:=by rw[q5.1];exact(List.getElem?_eq_some_iff.1 hj').1
   have jD:c[j]? =some (c.getD j undef):=by simp_all
  ·rw[Nat.zero_add,cell_of_row w q4,jD]
  ·exact k4 _ _ (q5.2 j x _ hj' jD).1
 ·intro base m' dp hv _
  rw[e]at hv
  injection hv with e1 e2 e3
  subst e3
  exact⟨b,0,c,t,(0,0),e1.symm,by simp,by simp,q4,by rw[q5.1,hl,Nat.zero_add],fun j _ hj=>by grind,Nat.le_refl _,rfl,.inl rfl,fun j y _ hy=>by
   have hlt:j<(cs++sp).length:=by rw[<-q5.1];exact(Array.getElem?_eq_some_iff.1 hy).1
   exact pO (q6 _ (List.getElem_mem hlt)) (q5.2 j _ y (List.getElem?_eq_getElem hlt) hy).1⟩
theorem Jh{sz:Nat}{v:Value}(hr:mB G w [.arr b 0 0 0] v):mB G w [.sl true sz 0 []] v:=by
 rcases VR.cP hr.1 with e|⟨_,_,e⟩
 ·refine⟨?_,?_⟩
  ·rw[e];exact .sl true sz 0 [] b 0 0 (fun _=>undef) Fl.nil (by simp) (by simp) (Nat.le_refl _) (fun j c hj=>by grind) (fun j c hj=>by grind)
  ·intro base m' dp hv hc;grind
 ·refine⟨by rw[e];exact .slnil _ _,?_⟩
  intro base m' dp hv hc;grind
end
theorem mE{s:ae}{b:Nat}{o:SO}(h:s b=none):(s.set b o).del b=s:=by grind [ae.set,ae.del]
@[go_sem]theorem bD{s:ae}{b:Nat}{o:SO}:(s.set b o) b=some o:=by unfold ae.set;simp
def Sub(s2 s:ae):Prop:=∀b o,s2 b=some o->s b=some o
theorem Sub.refl(s:ae):Sub s s:=fun _ _ h=>h
theorem Sub.set{s s2:ae}(h:Sub s2 s){b:Nat}{o:SO}(hb:s b=none):Sub s2 (s.set b o):=fun b' o' h'=>by
 have:=h b' o' h'
 grind [ae.set]
theorem Sub.DG{s s2:ae}(h:Sub s2 s){b:Nat}{o:SO}:Sub (s2.set b o) (s.set b o):=fun b' o' h'=>by
 unfold ae.set at h'⊢
 split
 ·grind
 ·rename_i e;rw[if_neg e]at h';exact h b' o' h'
theorem Sub.none{s s2:ae}(h:Sub s2 s){b:Nat}(hb:s b=none):s2 b=none:=by
 cases h2:s2 b with
 |none=>rfl
 |some o=>have:=h b o h2;grind
theorem a8.sub{G:Gh}{w:World}{s s2:ae}(h:a8 G w s)(hs:Sub s2 s):a8 G w s2:=fun b o hb=>h b o (hs b o hb)
theorem ma.refl(G:Gh):ma G G:=fun _=>⟨Nat.le_refl _,fun _=>⟨rfl,rfl⟩⟩
theorem FN.ji{P:Program}{f:FuncId}{args:List AV}{s:ae}{Q:List AV->ae->Prop}(h:FN P f args s fun rs s'=>∃s2,Sub s2 s'/\Q rs s2):FN P f args s Q:=h.conv fun rs _⟨s2,h1,h2⟩ G _ _ hg hs hr=>⟨rs,s2,G,h2,ma.refl G,hg,hs.sub h1,hr⟩
theorem FN.GU{P:Program}{f:FuncId}{args:List AV}{s s2:ae}{Q:List AV->ae->Prop}{sz:Nat}{cs:List AV}{n:Nat}(hl2:cs.length=n*sz)(hvw:views cs=cs)(hq:Q [.sl true sz n cs] s2)
 (h:FN P f args s fun rs s'=>(∃b cap sp,rs=[.arr b 0 n cap]/\s' b=some (.cells (cs++sp))/\0<cap/\n<=cap/\(cs++sp).length=cap*sz/\Sub s2 (s'.del b))\/(n=0/\cs=[]/\Sub s2 s'/\∃b,rs=[.arr b 0 0 0])):FN P f args s Q:=by
 refine h.conv fun rs s' hq' G w v hg hs hr=>?_
 rcases hq' with⟨b,cap,sp,rfl,hb,hc,hn,hl,jF⟩|⟨rfl,rfl,jF,b,rfl⟩
 ·obtain⟨G2,k1,k2,k3,k4⟩:=M4 hs hg hb hc hn hl hl2 hvw hr
  exact⟨_,_,G2,hq,k1,k2,k3.sub jF,k4⟩
 ·exact⟨_,_,G,hq,ma.refl G,hg,hs.sub jF,Jh hr⟩
theorem FN.Sx{P:Program}{f:FuncId}{args:List AV}{s s2:ae}{Q:List AV->ae->Prop}{sz:Nat}{cs:List AV}{n:Nat}(hl2:cs.length=n*sz)(hq:Q [.us sz n cs] s2)
 (h:FN P f args s fun rs s'=>(∃b cap sp,rs=[.arr b 0 n cap]/\s' b=some (.cells (cs++sp))/\0<cap/\n<=cap/\(cs++sp).length=cap*sz/\views (cs++sp)=cs++sp/\Sub s2 (s'.del b))\/(n=0/\cs=[]/\Sub s2 s'/\∃b,rs=[.arr b 0 0 0])):FN P f args s Q:=by
 refine h.conv fun rs s' hq' G w v hg hs hr=>?_
 rcases hq' with⟨b,cap,sp,rfl,hb,hc,hn,hl,hvw,jF⟩|⟨rfl,rfl,jF,b,rfl⟩
 ·obtain⟨G2,k1,k2,k3,k4⟩:=Vd hs hg hb hc hn hl hl2 hvw hr
  exact⟨_,_,G2,hq,k1,k2,k3.sub jF,k4⟩
 ·exact⟨_,_,G,hq,ma.refl G,hg,hs.sub jF,RU hr⟩
def R7:AV->Bool
 |.int _ _=>true
 |.bool _=>true
 |.str _=>true
 |_=>false
theorem EN{w w':World}{R R':Nat->Nat}{a:AV}{v:Value}(h:R7 a=true)(hv:VR w R a v):VR w' R' a v:=by
 cases a<;>first|(cases h)|skip
 ·rw[VR.gK hv];exact .bool _
 ·rw[VR.b8 hv];exact .int _ _
 ·rw[VR.fJ hv];exact .str _
theorem FN.borrow{P:Program}{f:FuncId}{args DU:List AV}{s:ae}{Q:List AV->ae->Prop}(b k:Nat)
 (h:FN P f DU An fun rs _=>rs.all R7=true/\Q rs s)
 (ha:∀(G:Gh)(w:World)(vs:Array Value),a8 G w s->mn w G.R args vs->mn w (fun i=>if i=b/\b<w.heap.size then k else G.R i) DU vs):FN P f args s Q:=by
 intro G w vs h1 h2 h3 h4
 let G1:Gh:=⟨fun i=>if i=b/\b<w.heap.size then k else G.R i,fun i=>if G.O i=.none then .none else .frame⟩
 have hO1:∀i,G1.O i=.frame\/G1.O i=.none:=fun i=>by grind
 have hg1:cq G1 w:=⟨fun i hi=>by simp[G1,h1.jJ i hi],fun i hi=>by
  have:¬(i=b/\b<w.heap.size):=by omega
  show(if i=b/\b<w.heap.size then k else G.R i)=0
  rw[if_neg this,h1.kB i hi]⟩
 refine(h G1 w vs hg1 (fun i=>(hO1 i).elim (fun e=>.inr (.inl e)) .inl) (fun i o hi=>by cases hi) (ha G w vs h3 h4)).mono fun e w'⟨v,rs,s',G',he,⟨hpl,hq⟩,_,_,hr,hp⟩=>?_
 have same:=fun i hi=>hp.frame i hi (hO1 i)
 have dT:∀i j,i<w.heap.size->w'.cell? ⟨i,j,none⟩=w.cell? ⟨i,j,none⟩:=fun i j hi=>World.cell?_of_block (same i hi)
 have hlt:∀i,G.O i≠.none->i<w.heap.size:=fun i hi=>h1.lt hi
 have bV:aG G w G w':=⟨hp.os,hp.tape,hp.output,hp.drawn,hp.size,fun _ _=>Nat.le_refl _,fun i j hi _=>dT i j hi,fun i hi _=>same i hi,fun i _ ho=>⟨ho,rfl⟩,fun i _ ho=>⟨ho,rfl⟩⟩
 have hg':cq G w':=⟨fun i hi=>h1.jJ i (Nat.le_trans hp.size hi),fun i hi=>h1.kB i (Nat.le_trans hp.size hi)⟩
 refine⟨v,rs,s,G,he,hq,hg',h3.mono h1 bV (fun i hi=>⟨hi,rfl,same i (hlt i (by grind))⟩) (fun i c j _ hc=>⟨hc,rfl,same c (hlt c (by grind))⟩),?_,bV⟩
 match rs,hpl,hr with
 |[],_,hr=>
  obtain⟨ys,q1,q2,q3⟩:=hr
  exact⟨ys,q1,q2,fun j x y hx hy=>by simp at hx⟩
 |[a],hpl,hr=>
  have hpa:=by simpa using hpl
  have ve:VR w' G'.R a v/\dn G' w' (.res 0) a v:=by cases a<;>first|exact hr|(cases hpa;done)
  have hv:=EN (w':=w') (R':=G.R) hpa ve.1
  cases a<;>first|exact⟨hv,trivial⟩|(cases hpa;done)
 |a1::a2::rr,hpl,hr=>
  obtain⟨ys,q1,q2,q3⟩:=hr
  refine⟨ys,q1,q2,fun j x y hx hy=>?_⟩
  have hpa:=List.all_eq_true.1 hpl x (List.mem_of_getElem? hx)
  refine⟨EN hpa (q3 j x y hx hy).1,?_⟩
  cases x<;>first|trivial|(done)
theorem Pz{G:Gh}{w:World}{s:ae}{b n cap sz:Nat}{cs:List AV}{v:Value}(h:a8 G w s)(hlen:cs.length=n*sz)(hn:n<=cap)(hvw:views cs=cs)(hs:cs≠[]->∃sp,s b=some (.cells (cs++sp)))(hv:VR w G.R (.arr b 0 n cap) v)(hsz:0<sz):
 VR w (fun i=>if i=b/\b<w.heap.size then n*sz else G.R i) (.sl false sz n cs) v:=by
 by_cases hcs:cs=[]
 ·subst hcs
  have hn0:n=0:=by
   rcases Nat.mul_eq_zero.1 hlen.symm with h|h
   ·exact h
   ·omega
  subst hn0
  rcases VR.cP hv with e|⟨_,_,e⟩
  ·rw[e];exact .sl false sz 0 [] b 0 cap (fun _=>undef) Fl.nil (by simp) (Nat.zero_le _) (Nat.zero_le _) (fun j c hj=>by simp at hj) (fun j c hj=>by simp at hj)
  ·rw[e];exact .slnil _ _
 ·obtain⟨sp,hs⟩:=hs hcs
  obtain⟨q2,q3,c,t,q4,q5,q6⟩:=h b _ hs
  have hn0:0<n:=by
   rcases Nat.eq_zero_or_pos n with h|h
   ·simp_all
   ·exact h
  have e:=VR.qt hv (by omega)
  rw[e]
  have ac4:∀a u,VR w G.R a u->VR w (fun i=>if i=b/\b<w.heap.size then n*sz else G.R i) a u:=fun a u h=>h.mono (fun i=>by grind) fun _ _ _=>rfl
  refine .sl false sz n cs b 0 cap (fun j=>c.getD j undef) (q6.left.flat hvw) hlen (by grind) hn (fun j x hj=>?_) (fun j x hj=>?_)
  all_goals
   have hj':(cs++sp)[j]? =some x:=by grind
   have hlt:j<c.size:=by rw[q5.1];exact(List.getElem?_eq_some_iff.1 hj').1
   have jD:c[j]? =some (c.getD j undef):=by simp_all
  ·rw[Nat.zero_add,cell_of_row w q4,jD]
  ·exact ac4 _ _ (q5.2 j x _ hj' jD).1
def TJ:Nat:=18446744073709551616
@[go_sem]theorem afx(a b:Nat):Nat.beq a b=(a==b):=Bool.eq_iff_iff.2 (by simp)
theorem NJ{A C:Prop}{b:Bool}(h:b=true)(k:A->C):A->b=true/\C:=fun x=>⟨h,k x⟩
theorem adJ{A C:Prop}{a b:Nat}(h:a=b)(k:A->C):A->a=b/\C:=fun x=>⟨h,k x⟩
theorem Fc{P:Program}{f:FuncId}{as1 as2 rs:List AV}{s s':ae}(e:as1=as2)(h:FE P f as1 s rs s'):FE P f as2 s rs s':=e▸h
def Rr(E:St)(d:Option Nat)(K:St->Prop)(b off:Nat):Option SO->Prop
 |some (.cells cs)=>jM off cs fun cs' a=>K ({E with s:=E.s.set b (.cells cs')}.put d a)
 |_=>False
@[go_sem]theorem Zb(E:St)(d:Option Nat)(K:St->Prop)(b off:Nat):qA E d K (.ref b off)=Rr E d K b off (E.s b):=by rfl
@[go_sem]theorem US(E:St)(d:Option Nat)(K:St->Prop)(b off:Nat)(cs:List AV):Rr E d K b off (some (.cells cs))=jM off cs fun cs' a=>K ({E with s:=E.s.set b (.cells cs')}.put d a):=rfl
@[go_sem]theorem aaC(o:Bool)(sz n:Nat)(ds cs:List AV)(k:List AV->AV->Prop):jM 0 (.sl o sz n ds::cs) k=k (.sl false sz n ds::cs) (.sl o sz n ds):=rfl
@[go_sem]theorem aeN(t n:Nat)(ds cs:List AV)(k:List AV->AV->Prop):jM 0 (.bb t n ds::cs) k=k (.sl false 1 n ds::cs) (.bb t n ds):=rfl
@[go_sem]theorem aaB(a:AV)(n:Nat)(cs:List AV)(k:List AV->AV->Prop):jM (n+1) (a::cs) k=jM n cs fun cs' x=>k (a::cs') x:=by rfl
def ixI:AV->Option Int
 |.int _ n=>some n
 |_=>none
@[go_sem]theorem adp(f:IX->AV)(d:Int):Es f none d=some d:=rfl
@[go_sem]theorem adq(f:IX->AV)(x:IX)(d:Int):Es f (some x) d=ixI (f x):=rfl
@[go_sem]theorem afu(k:IntKind)(n:Int):ixI (.int k n)=some n:=rfl
attribute[go_sem] Option.isSome_some Bool.cond_true
@[go_sem]theorem Wp(off cap sz:Nat):iT off cap 0 sz=off:=by grind [iT]
@[go_sem]theorem toNat_zero:(0:Int).toNat=0:=rfl
attribute[go_sem] Int.toNat_natCast Int.sub_zero Nat.sub_zero
@[go_sem]theorem toNat_sub'(a b:Nat):((a:Int) -(b:Int)).toNat=a -b:=by simp
section
variable{E:St}{d:Option Nat}{K:St->Prop}{sz by':Nat}{zero:List AV}{b off n cap m:Nat}{cs ds:List AV}
theorem JK{s:ae}(hs:s b=some (.cells cs))(hf:off+m*sz<=cs.length):tV s sz (.arr b off m cap)=some (m,views (AB.sub cs off (m*sz))):=by
 show(bif m==0 then some (0,[])else jl m sz off (s b))=_
 by_cases hm:m=0
 ·subst hm;simp[AB.sub,views]
 ·rw[show(m==0)=false by grind,hs]
  show(bif decide (off+m*sz<=cs.length)then some (m,views (AB.sub cs off (m*sz)))else none)=_
  grind
theorem js(s:ae)(ow:Bool):tV s sz (.sl ow sz m ds)=some (m,views ds):=by unfold tV;simp
theorem O4(s:ae):tV s sz (.arr b off 0 cap)=some (0,[]):=rfl
theorem td{s:ae}(hs:s b=some (.cells cs))(hf:off+n*sz<=cs.length):nH s sz b off n=some (views (AB.sub cs off (n*sz))):=by
 unfold nH
 by_cases hm:n=0
 ·subst hm;simp[AB.sub,views]
 ·rw[show(n==0)=false by grind,hs]
  show((bif decide (off+n*sz<=cs.length)then some (n,views (AB.sub cs off (n*sz)))else none)).map Prod.snd=_
  grind
theorem nZ(hz:zero.length=sz)(hs:E.s b=some (.cells cs))(hf:off+cap*sz<=cs.length)(hm:n+m<=cap)
 (hk:K ({E with s:=E.s.set b (.cells (setAt cs (off+n*sz) ds))}.put d (.arr b off (n+m) cap))):dY sz by' zero E d K (.arr b off n cap) (some (m,ds)):=by
 have hn:off+n*sz<=cs.length:=Nat.le_trans (Nat.add_le_add_left (Nat.mul_le_mul_right _ (by omega)) _) hf
 show NG sz by' zero E d K b off n cap m ds (nH E.s sz b off n)
 rw[td hs hn]
 refine⟨hz,fun _=>.inr ⟨by rw[hs];exact hf,?_⟩,fun h=>by omega⟩
 rw[hs];exact hk
theorem eD(hz:zero.length=sz){olds:List AV}(ho:nH E.s sz b off n=some olds)(hm:cap<n+m)(hr:(n+m)*by'<=room)
 (hk:∀b' dp,E.s b'=none->n+m<=dp->K ({E with s:=E.s.set b' (.cells (olds++ds++(List.replicate (dp -(n+m)) zero).flatten))}.put d (.arr b' 0 (n+m) dp))):dY sz by' zero E d K (.arr b off n cap) (some (m,ds)):=by
 show NG sz by' zero E d K b off n cap m ds (nH E.s sz b off n)
 rw[ho]
 exact⟨hz,fun h=>by omega,fun _=>⟨hr,hk⟩⟩
theorem lI(hz:zero.length=sz){olds:List AV}(ho:nH E.s sz b off n=some olds)(hm:n<=cap)(hk:K (E.put d (.arr b off n cap))):dY sz by' zero E d K (.arr b off n cap) (some (0,ds)):=by
 show NG sz by' zero E d K b off n cap 0 ds (nH E.s sz b off n)
 rw[ho]
 exact⟨hz,fun _=>.inl ⟨rfl,hk⟩,fun h=>by omega⟩
theorem NY(hs:E.s b=some (.cells cs))(hf:off+n*sz<=cs.length)
 (hk:K ({E with s:=E.s.set b (.cells (setAt cs off (ds.take (min m n*sz))))}.put d (.int .i64 (min m n:Nat)))):xV sz E d K (.arr b off n cap) (some (m,ds)):=by
 refine .inr ⟨by rw[hs];exact hf,?_⟩
 rw[hs];exact hk
theorem AU(hz:views zero=zero)(hs:E.s b=some (.cells cs))(hf:off+n*zero.length<=cs.length)
 (hk:K ({E with s:=E.s.set b (.cells (setAt cs off (List.replicate n zero).flatten))}.put d (.iL []))):Ag zero E d K (.arr b off n cap):=by
 refine .inr ⟨by rw[hs];exact hf,hz,?_⟩
 rw[hs];exact hk
theorem Fm(hz:zero.length=sz)(hv:views zero=zero){olds:List AV}(ho:nH E.s sz b off n=some olds)(hm:cap<n+m)(hr:(n+m)*by'<=room)
 (hk:∀b' dp,E.s b'=none->n+m<=dp->K ({E with s:=E.s.set b' (.cells (olds++(List.replicate m zero).flatten++(List.replicate (dp -(n+m)) zero).flatten))}.put d (.arr b' 0 (n+m) dp))):wb sz by' zero E d K (.arr b off n cap) (.int .i64 (m:Nat)):=by
 show 0<=(m:Int)/\_
 grind [Int.natCast_nonneg,Int.toNat_natCast,NG,nH]
theorem xN{off cap l sz:Nat}(h:l<cap):iT off cap l sz=off+l*sz:=by grind [iT]
end
section
variable{α:Type}[aP α]
theorem KE(l:List α)(k:Nat):flat (l.take k)=(flat l).take (k*aP.w α):=(sO l k).symm
theorem KD(l:List α)(k:Nat):flat (l.drop k)=(flat l).drop (k*aP.w α):=(x6 l k).symm
theorem lL(l:List α)(sp:List AV)(n j m:Nat)(hn:n=aP.w α)(h:j+m<=l.length):AB.sub (flat l++sp) (j*n) (m*n)=flat ((l.drop j).take m):=by
 subst hn
 rw[<-kK l _ j m rfl]
 unfold AB.sub
 have h1:j*aP.w α<=(flat l).length:=by rw[aA];exact Nat.mul_le_mul_right _ (by omega)
 rw[List.drop_append_of_le_length h1,List.take_append_of_le_length]
 rw[List.length_drop,aA,<-Nat.sub_mul]
 exact Nat.mul_le_mul_right _ (by omega)
theorem mP(l l':List α)(sp:List AV)(n i:Nat)(hn:n=aP.w α)(h:i+l'.length<=l.length):setAt (flat l++sp) (i*n) (flat l')=flat (l.take i++l'++l.drop (i+l'.length))++sp:=by
 unfold setAt
 have e1:i*aP.w α+(flat l').length=(i+l'.length)*aP.w α:=by rw[aA,Nat.add_mul]
 grind [aP.w,flat,aA,Nat.mul_le_mul_right,ep,KE,KD,List.append_assoc]
theorem B4(l l':List α)(sp:List AV)(n:Nat)(hn:n=aP.w α)(h:l'.length*n<=sp.length):setAt (flat l++sp) (l.length*n) (flat l')=flat (l++l')++sp.drop (l'.length*n):=by
 subst hn
 unfold setAt
 have e0:=(aA l).symm
 have e1:=aA l'
 rw[ep]
 simp_all
theorem fX(z:α)(k:Nat):flat (List.replicate k z)=(List.replicate k (aP.cells z)).flatten:=by unfold flat;simp_all
end
theorem kR{P:Program}{S O:Type}{body:S->Option (S⊕O)}{s0:S}{kf:O->Prop}{live:List (Nat×Bool)}{b:IC}{Q:Exit->St->Prop}{E:St}(R:S->St->Prop)
 (h0:R s0 (E.eQ live))
 (hb:∀(J:St->Prop)(s:S)(τ:St),R s τ->ok (body s) (kF (fun t=>∀U',R t U'->J U') kf)->fD P b (og live J Q) τ):ok (iter body s0) kf->fD P (.loop live b) Q E:=by
 intro h
 have wP:∀τ,(∃m s,R s τ/\ok (ch body m s) kf)->∃m,(∃s,R s τ/\ok (ch body m s) kf)/\∀k,k<m->¬∃s,R s τ/\ok (ch body k s) kf:=by
  rintro τ ⟨m,s,h⟩
  induction m using Nat.strongRecOn generalizing s with
  |_ m ih=>grind
 have hμ:∃μ:St->Nat,∀τ,(∃m s,R s τ/\ok (ch body m s) kf)->(∃s,R s τ/\ok (ch body (μ τ) s) kf)/\∀k,k<μ τ->¬∃s,R s τ/\ok (ch body k s) kf:=⟨fun τ=>Classical.epsilon fun m=>(∃s,R s τ/\ok (ch body m s) kf)/\∀k,k<m->¬∃s,R s τ/\ok (ch body k s) kf,fun τ hτ=>Classical.epsilon_spec (wP τ hτ)⟩
 obtain⟨μ,hμ⟩:=hμ
 refine⟨fun τ=>∃m s,R s τ/\ok (ch body m s) kf,μ,⟨_,s0,h0,h⟩,?_⟩
 intro τ hτ
 obtain⟨⟨s,e,hs⟩,_⟩:=hμ τ hτ
 generalize hm:μ τ=m at hs
 cases m with
 |zero=>grind [qw]
 |succ m=>
  rw[vy]
  obtain⟨x,hx,k⟩:=qu hs
  refine hb _ s τ e ⟨x,hx,?_⟩
  cases x with
  |inr o=>exact k
  |inl t=>
   intro U' ht
   refine⟨⟨m,t,ht,k⟩,?_⟩
   have h2:=(hμ U' ⟨m,t,ht,k⟩).2
   rcases Nat.lt_or_ge m (μ U')with hlt|hge
   ·exact(h2 m hlt ⟨t,ht,k⟩).elim
   ·omega
theorem u7{α:Type}[aP α](l:List α)(sp:List AV){i r:Nat}(hi:i<l.length)(hr:r<aP.w α):(flat l++sp)[i*aP.w α+r]? =(aP.cells l[i])[r]? :=by
 have hlt:i*aP.w α+r<(flat l).length:=by
  rw[aA]
  calc i*aP.w α+r<(i+1)*aP.w α:=by grind
   _<=l.length*aP.w α:=Nat.mul_le_mul_right _ hi
 rw[List.getElem?_append_left hlt]
 have h:=kK l (aP.w α) i 1 rfl
 rw[Nat.one_mul,List.drop_eq_getElem_cons hi]at h
 have h2:(AB.sub (flat l) (i*aP.w α) (aP.w α))[r]? =(aP.cells l[i])[r]? :=by
  rw[h]
  show(flat [l[i]])[r]? =_
  unfold flat
  simp
 rw[Ar,if_pos hr]at h2
 exact h2
abbrev cN:=Option (Nat×Nat×List AV)
section
variable{α:Type}[aP α]
def JA:cN->Nat
 |none=>0
 |some (b,_,_)=>b
def GS:cN->Nat
 |none=>0
 |some (_,cap,_)=>cap
abbrev iG(r:cN)(n:Nat):AV:=.arr (JA r) 0 n (GS r)
def iw(s:ae)(r:cN)(l:List α):ae:=match r with
 |none=>s
 |some (b,_,sp)=>s.set b (.cells (flat l++sp))
def fB(s:ae)(r:cN)(l:List α):Prop:=match r with
 |none=>l=[]
 |some (b,cap,sp)=>s b=none/\0<cap/\l.length<=cap/\(flat l++sp).length=cap*aP.w α/\views sp=sp
theorem Sw{s:ae}{r:cN}{l:List α}(h:fB s r l):Sub s (iw s r l):=by
 cases r with
 |none=>exact Sub.refl s
 |some x=>exact(Sub.refl s).set h.1
theorem jf{s:ae}{r:cN}{l:List α}(h:fB s r l){b:Nat}{o:SO}(hb:s b=some o):iw s r l b=some o:=Sw h b o hb
theorem v7{E:St}{d:Option Nat}{K:St->Prop}{sz by':Nat}{s:ae}{r:cN}{l:List α}{z v:α}(hσ:E.s=iw s r l)(h:fB s r l)(hz:sz=aP.w α)(hr:(l.length+1)*by'<=room)
 (hK:∀s' r',Sub s s'->fB s' r' (l++[v])->K ({E with s:=iw s' r' (l++[v])}.put d (iG r' (l.length+1)))):
 dY sz by' (aP.cells z) E d K (iG r l.length) (some (1,aP.cells v)):=by
 subst hz
 have hcz:(aP.cells z).length=aP.w α:=aP.len z
 have hcv:flat [v]=aP.cells v:=by unfold flat;simp
 have hvz:views (aP.cells z)=aP.cells z:=aP.vw z
 have fresh:∀(s':ae)(b' dp:Nat),s' b'=none->l.length+1<=dp->fB s' (some (b',dp,flat (List.replicate (dp -(l.length+1)) z))) (l++[v]):=fun s' b' dp hb hc=>by
  refine⟨hb,by omega,by grind,?_,aN _⟩
  rw[List.length_append,aA,aA,List.length_replicate,List.length_append,<-Nat.add_mul]
  grind
 cases r with
 |none=>
  obtain rfl:l=[]:=h
  show dY (aP.w α) by' (aP.cells z) E d K (.arr 0 0 0 0) _
  refine eD hcz (olds:=[]) rfl (by simp) hr fun b' dp hb' hc=>?_
  rw[List.nil_append,<-fX,<-hcv]
  rw[hσ]at hb'⊢
  have:=hK s (some (b',dp,flat (List.replicate (dp -(0+1)) z))) (Sub.refl s) (fresh s b' dp hb' hc)
  exact this
 |some x=>
  obtain⟨b,cap,sp⟩:=x
  obtain⟨h1,h2,h3,h4,h5⟩:=h
  have hs:E.s b=some (.cells (flat l++sp)):=by rw[hσ];exact bD
  show dY (aP.w α) by' (aP.cells z) E d K (.arr b 0 l.length cap) _
  by_cases hc:l.length+1<=cap
  ·refine nZ hcz hs (by grind) hc ?_
   have hsp:[v].length*aP.w α<=sp.length:=by
    rw[List.length_append,aA]at h4
    have:(l.length+1)*aP.w α<=cap*aP.w α:=Nat.mul_le_mul_right _ hc
    rw[Nat.add_mul,Nat.one_mul]at this
    simp;omega
   have st:=B4 l [v] sp (aP.w α) rfl hsp
   rw[Nat.zero_add,<-hcv,st]
   have e:E.s.set b (.cells (flat (l++[v])++sp.drop ([v].length*aP.w α)))=iw s (some (b,cap,sp.drop ([v].length*aP.w α))) (l++[v]):=by
    rw[hσ]
    show(s.set b _).set b _=s.set b _
    exact set_set ..
   rw[e]
   refine hK s _ (Sub.refl s) ⟨h1,h2,by grind,?_,?_⟩
   ·grind [List.length_append,aA,List.length_drop,Nat.add_mul]
   grind [views,List.map_drop]
  ·refine eD hcz (td hs (by
    grind)) (by omega) hr fun b' dp hb' hc'=>?_
   have ho:views (AB.sub (flat l++sp) 0 (l.length*aP.w α))=flat l:=by
    have:=lL l sp (aP.w α) 0 l.length rfl (by omega)
    rw[Nat.zero_mul]at this
    rw[this,List.drop_zero,List.take_length,aN]
   rw[ho,<-fX,<-hcv,<-ep]
   rw[hσ]at hb'⊢
   have hb0:(s.set b (.cells (flat l++sp))) b'=none:=hb'
   exact hK (s.set b (.cells (flat l++sp))) (some (b',dp,flat (List.replicate (dp -(l.length+1)) z))) ((Sub.refl s).set h1) (fresh _ b' dp hb0 hc')
theorem LC{s:ae}{r:cN}{l:List α}(h:fB s r l)(hl:0<l.length):∃b cap sp,r=some (b,cap,sp):=by
 cases r with
 |none=>rw[h]at hl;simp at hl
 |some x=>grind
theorem VD{s:ae}{b cap:Nat}{sp:List AV}{l l':List α}(h:fB s (some (b,cap,sp)) l)(hl:l'.length=l.length):fB s (some (b,cap,sp)) l':=by
 obtain⟨h1,h2,h3,h4,h5⟩:=h
 exact⟨h1,h2,by omega,by grind [List.length_append,aA],h5⟩
theorem Ga{E:St}{d:Option Nat}{K:St->Prop}{sz:Nat}{s:ae}{r:cN}{l:List α}(hσ:E.s=iw s r l)(h:fB s r l)(hz:sz=aP.w α)
 (hK:K ({E with s:=s}.put d (.sl true sz l.length (flat l)))):wH sz true E d K (iG r l.length):=by
 subst hz
 cases r with
 |none=>
  obtain rfl:l=[]:=h
  refine .inl ⟨rfl,rfl,rfl,?_⟩
  have e:{E with s:=s}=E:=by
   have:E.s=s:=hσ
   rw[<-this]
  rw[e]at hK
  exact hK
 |some x=>
  obtain⟨b,cap,sp⟩:=x
  obtain⟨h1,h2,h3,h4,h5⟩:=h
  have hs:E.s b=some (.cells (flat l++sp)):=by rw[hσ];exact bD
  show wH (aP.w α) true E d K (.arr b 0 l.length cap)
  refine .inr ⟨h2,h3,fun _=>⟨rfl,?_,?_⟩,?_⟩
  ·rw[hs];show 0+cap*aP.w α<=_;grind
  ·rw[hs];show _=0+cap*aP.w α;grind
  ·have ho:views (AB.sub (flat l++sp) 0 (l.length*aP.w α))=flat l:=by
    have:=lL l sp (aP.w α) 0 l.length rfl (by simp)
    rw[Nat.zero_mul]at this
    rw[this,List.drop_zero,List.take_length,aN]
   rw[hs]
   show wH.frzK _ _ E d K b l.length (bif decide (0+l.length*aP.w α<=(flat l++sp).length)then some (l.length,views (AB.sub (flat l++sp) 0 (l.length*aP.w α)))else none)
   rw[decide_eq_true (by rw[Nat.zero_add,h4];exact Nat.mul_le_mul_right _ h3),ho]
   have e:E.s.del b=s:=by
    rw[hσ]
    exact mE h1
   show K ({E with s:=E.s.del b}.put d (.sl true _ l.length (flat l)))
   grind
end
end Go.AB
end
