/- A part. -/
import Derived.Test.YtgecakgfnjkkbaaGreatRt9
import Derived.Test.YtgecakgfnjkkbaaGreatProg
import Derived.KernelRfl
set_option linter.defProp false
set_option linter.unusedSimpArgs false
set_option linter.unusedVariables false
section
namespace Go.AB
open Go
theorem lX(a b:List AV):views (a++b)=views a++views b:=bY
theorem wy:∀l:List (List AV),(∀x∈l,views x=x)->views l.flatten=l.flatten
 |[],_=>rfl
 |a::l,h=>by rw[List.flatten_cons,lX,h a List.mem_cons_self,wy l fun x hx=>h x (List.mem_cons_of_mem _ hx)]
class aO(α:Type)where
 w:Nat
 cells:α->List AV
 zero:α
 pos:0<w
 len:∀x,(cells x).length=w
 vw:∀x,views (cells x)=cells x
structure bg where
 b:List UInt8
 deriving DecidableEq,Inhabited
section
variable{α:Type}[aO α]
def flat(l:List α):List AV:=(l.map aO.cells).flatten
def ix(l:List α)(i:Int):α:=l.getD i.toNat aO.zero
theorem au:∀l:List α,(flat l).length=l.length*aO.w α
 |[]=>by simp[flat]
 |a::l=>by
  have:=au l
  simp only[flat,List.map_cons,List.flatten_cons,List.length_append,aO.len]at this⊢
  rw[this,List.length_cons,Nat.add_mul,Nat.one_mul,Nat.add_comm]
@[go_sem]theorem qP:flat ([]:List α)=[]:=rfl
@[go_sem]theorem oC(a:α)(l:List α):flat (a::l)=aO.cells a++flat l:=rfl
@[go_sem]theorem cT(a b:List α):flat (a++b)=flat a++flat b:=by simp[flat]
@[go_sem]theorem aF(l:List α):views (flat l)=flat l:=wy _ fun x hx=>by
  obtain⟨y,_,rfl⟩:=List.mem_map.1 hx
  exact aO.vw y
theorem zG(l:List α):∀k,(flat l).drop (k*aO.w α)=flat (l.drop k):=by
 induction l with
 |nil=>intro k;simp[flat]
 |cons a l ih=>intro k;cases k with
  |zero=>simp
  |succ k=>
   rw[oC,List.drop_succ_cons,<-ih k,Nat.succ_mul,Nat.add_comm,<-List.drop_drop]
   congr 1
   rw[<-aO.len a,List.drop_left]
theorem uN(l:List α):∀k,(flat l).take (k*aO.w α)=flat (l.take k):=by
 induction l with
 |nil=>intro k;simp[flat]
 |cons a l ih=>intro k;cases k with
  |zero=>simp[qP]
  |succ k=>
   rw[oC,List.take_succ_cons,oC,<-ih k,Nat.succ_mul,Nat.add_comm,List.take_append]
   rw[aO.len a,List.take_of_length_le (by rw[aO.len];omega)]
   congr 2
   omega
theorem lH(l:List α)(n lo m:Nat)(hn:n=aO.w α):AB.sub (flat l) (lo*n) (m*n)=flat ((l.drop lo).take m):=by
 subst hn
 unfold AB.sub
 rw[zG,uN]
def tG(z:List AV)(n:Nat)(l:List α)(i:Int)(hz:z=aO.cells (aO.zero:α))(hn:n=aO.w α):pad z (views (AB.sub (flat l) (i.toNat*n) n))=aO.cells (ix l i):=by
 subst hn
 have h1:AB.sub (flat l) (i.toNat*aO.w α) (aO.w α)=flat ((l.drop i.toNat).take 1):=by
  have:=lH l (aO.w α) i.toNat 1 rfl
  rwa[Nat.one_mul]at this
 rw[h1,aF]
 unfold pad ix
 rcases Nat.lt_or_ge i.toNat l.length with hlt|hge
 ·rw[List.drop_eq_getElem_cons hlt,List.take_succ_cons,List.take_zero,oC,qP,List.append_nil,hz,aO.len,aO.len,beq_self_eq_true]
  simp[List.getD,List.getElem?_eq_getElem hlt]
 ·rw[List.drop_eq_nil_of_le hge,List.take_nil,qP,hz,aO.len]
  have:(([]:List AV).length==aO.w α)=false:=by
   have:=aO.pos (α:=α)
   simp;omega
  rw[this]
  simp[List.getD,List.getElem?_eq_none hge]
def part(l:List α)(lo hi:Int):List α:=(l.drop lo.toNat).take (hi -lo).toNat
theorem GH(n:Nat)(l:List α)(lo hi:Int)(hn:n=aO.w α):AB.sub (flat l) (lo.toNat*n) ((hi -lo).toNat*n)=flat (part l lo hi):=lH l n _ _ hn
theorem TD(n:Nat)(l:List α)(hn:n=aO.w α):(flat l).length/n=l.length:=by
 subst hn
 rw[au];exact Nat.mul_div_cancel _ aO.pos
end
instance:aO Bool:=⟨1,fun b=>[.bool b],false,Nat.one_pos,fun _=>rfl,fun _=>rfl⟩
instance:aO Int:=⟨1,fun n=>[.int .i64 n],0,Nat.one_pos,fun _=>rfl,fun _=>rfl⟩
instance:aO UInt8:=⟨1,fun n=>[.int .u8 n.toNat],0,Nat.one_pos,fun _=>rfl,fun _=>rfl⟩
instance:aO UInt32:=⟨1,fun n=>[.int .u32 n.toNat],0,Nat.one_pos,fun _=>rfl,fun _=>rfl⟩
instance:aO UInt64:=⟨1,fun n=>[.int .u64 n.toNat],0,Nat.one_pos,fun _=>rfl,fun _=>rfl⟩
instance:aO bg:=⟨1,fun s=>[.str s.b],⟨[]⟩,Nat.one_pos,fun _=>rfl,fun _=>rfl⟩
instance{α:Type}[aO α]:aO (List α):=⟨1,fun l=>[.sl false (aO.w α) l.length (flat l)],[],Nat.one_pos,fun _=>rfl,fun _=>rfl⟩
@[go_sem]theorem aeo(x:Int):aO.cells x=[.int .i64 x]:=rfl
@[go_sem]theorem afY(x:UInt8):aO.cells x=[.int .u8 x.toNat]:=rfl
@[go_sem]theorem ami:aO.w Int=1:=rfl
@[go_sem]theorem amV:aO.w UInt8=1:=rfl
@[go_sem]theorem YC(l:List Int)(i:Int):pad [.int .i64 0] (views (AB.sub (flat l) (i.toNat*1) 1))=[.int .i64 (ix l i)]:=tG _ 1 l i rfl rfl
@[go_sem]theorem Vg(l:List UInt8)(i:Int):pad [.int .u8 0] (views (AB.sub (flat l) (i.toNat*1) 1))=[.int .u8 (ix l i).toNat]:=tG _ 1 l i rfl rfl
def ok{α:Type}(o:Option α)(K:α->Prop):Prop:=∃a,o=some a/\K a
def a8{α:Type}(c:Prop)[Decidable c](o:Option α):Option α:=if c then o else none
def kc{α:Type}(g:Bool)(z:α)(o:Option α):Option α:=bif g then o else some z
def aZ{α β:Type}(o:Option α)(f:α->Option β):Option β:=match o with
 |some a=>f a
 |none=>none
def cD{S O:Type}(body:S->Option (S⊕O)):Nat->S->Option O
 |0,_=>none
 |n+1,s=>match body s with
  |none=>none
  |some (.inl t)=>cD body n t
  |some (.inr o)=>some o
def iter{S O:Type}(body:S->Option (S⊕O))(s:S):Option O:=cD body 18446744073709551616 s
def jg{A B C:Type}(f:A->C)(g:B->C):A⊕B->C
 |.inl a=>f a
 |.inr b=>g b
section
variable{α β:Type}(K:α->Prop)
@[go_sem]theorem bB(a:α):ok (some a) K=K a:=by simp[ok]
@[go_sem]theorem ok_none:ok none K=False:=by simp[ok]
@[go_sem]theorem fu(c:Prop)[Decidable c](o:Option α):ok (a8 c o) K=(c/\ok o K):=by grind [a8,ok]
@[go_sem]theorem js(o:Option β)(f:β->Option α):ok (aZ o f) K=ok o (fun b=>ok (f b) K):=by cases o<;>simp[aZ,ok]
@[go_sem]theorem DE(c:Bool)(a b:Option α):ok (if c=true then a else b) K=((c=true->ok a K)/\(c=false->ok b K)):=A_
theorem Ys(g:Bool)(z:α)(o:Option α):ok (kc g z o) K=∃a,(g=true->o=some a)/\(g=false->a=z)/\K a:=by grind [kc,ok]
@[go_sem]theorem nW{A B C:Type}(f:A->C)(g:B->C)(a:A):jg f g (.inl a)=f a:=rfl
@[go_sem]theorem xV{A B C:Type}(f:A->C)(g:B->C)(b:B):jg f g (.inr b)=g b:=rfl
end
def cj{A B C D:Prop}(h:A->C)(k:B->D):A/\B->C/\D:=fun x=>⟨h x.1,k x.2⟩
def dw{p A B:Prop}(h:A->B):(p->A)->p->B:=fun x y=>h (x y)
def dj{A:Prop}:A->A:=fun h=>h
variable{P:Program}
def aN{β:Type}{o:Option β}{kf:β->Prop}{f:FuncId}{as1:List AV}{s:ae}{enc:β->List AV}{Q:List AV->ae->Prop}
 (hf:∀r,o=some r->FE P f as1 s (enc r) s)(hk:∀r,kf r->Q (enc r) s):ok o kf->FN P f as1 s Q:=fun⟨r,h,k⟩=>FE.app (hf r h) (hk r k)
def c7{β:Type}{o:Option β}{kf:β->Prop}{f:FuncId}{as1:List AV}{s:ae}{enc:β->List AV}{Q:List AV->Prop}
 (hf:∀r,o=some r->FE P f as1 s (enc r) s)(hr:∀r,ko (enc r)=true)(hk:∀r,kf r->Q (enc r)):ok o kf->∃rs,ko rs=true/\FE P f as1 s rs s/\Q rs:=
 fun⟨r,h,k⟩=>⟨enc r,hr r,hf r h,hk r k⟩
def jT{β:Type}{g:Bool}{z:β}{o:Option β}{kf:β->Prop}{f:FuncId}{as1:Option (List AV)}{as2:List AV}{s:ae}{enc:β->List AV}{Q:List AV->Prop}
 (ha:as1=some as2)(hf:∀r,o=some r->FE P f as2 s (enc r) s)(hr:∀r,ko (enc r)=true)(hk:∀r,kf r->Q (enc r)):
 ok (kc g z o) kf->∃rs,ko rs=true/\(g=true->∃as2,as1=some as2/\FE P f as2 s rs s)/\Q rs:=fun h=>by
 grind [Ys]
def okj{α:Type}(o:Option α)(K:α->Prop):Prop:=ok o K
def jn{α β:Type}(o:Option α)(f:α->Option β):Option β:=aZ o f
@[go_sem]theorem al3{α β:Type}(K:α->Prop)(o:Option β)(f:β->Option α):ok (jn o f) K=okj o (fun b=>ok (f b) K):=js ..
def dT{X:Type}{M:Option X}{kf:X->Prop}{live:List (Nat×Bool)}{a b:IC}{Q:Exit->St->Prop}{E:St}(enc:X->St)
 (ha:∀J:St->Prop,ok M (fun x=>J (enc x))->fY P a (pX live J Q) E)(hb:∀x,kf x->fY P b Q (enc x)):okj M kf->fY P (.join live a b) Q E:=fun⟨x,h,k⟩=>
 ⟨fun τ=>∃x,τ=enc x/\kf x,ha _ ⟨x,h,x,rfl,k⟩,fun _⟨x,e,k⟩=>e▸hb x k⟩
theorem sa{S O:Type}{body:S->Option (S⊕O)}{s:S}{K:O->Prop}:¬ok (cD body 0 s) K:=fun⟨_,h,_⟩=>F_
def rZ{S O:Type}{body:S->Option (S⊕O)}{n:Nat}{s:S}{K:O->Prop}(h:ok (cD body (n+1) s) K):ok (body s) (jg (fun t=>ok (cD body n t) K) K):=by
 obtain⟨o,h,k⟩:=h
 unfold cD at h
 cases hb:body s with
 |none=>grind
 |some x=>
  rw[hb]at h
  cases x with
  |inl t=>exact⟨_,rfl,⟨o,h,k⟩⟩
  |inr o'=>cases h;exact⟨_,rfl,k⟩
theorem xf{live:List (Nat×Bool)}{I:St->Prop}{μ:St->Nat}{m:Nat}{Q:Exit->St->Prop}:Hh live I μ m Q=pX live (fun ρ=>I ρ/\μ ρ<m) Q:=D_
def cY{S O:Type}{body:S->Option (S⊕O)}{s0:S}{kf:O->Prop}{live:List (Nat×Bool)}{b:IC}{Q:Exit->St->Prop}{E:St}(enc:S->St)
 (h0:E.fk live=enc s0)
 (hb:∀(J:St->Prop)(s:S),ok (body s) (jg (fun t=>J (enc t)) kf)->fY P b (pX live J Q) (enc s)):ok (iter body s0) kf->fY P (.loop live b) Q E:=by
 intro h
 have yn:∀τ,(∃m s,τ=enc s/\ok (cD body m s) kf)->∃m,(∃s,τ=enc s/\ok (cD body m s) kf)/\∀k,k<m->¬∃s,τ=enc s/\ok (cD body k s) kf:=by
  rintro τ ⟨m,s,h⟩
  induction m using Nat.strongRecOn generalizing s with
  |_ m ih=>grind
 have hμ:∃μ:St->Nat,∀τ,(∃m s,τ=enc s/\ok (cD body m s) kf)->(∃s,τ=enc s/\ok (cD body (μ τ) s) kf)/\∀k,k<μ τ->¬∃s,τ=enc s/\ok (cD body k s) kf:=by exact⟨fun τ=>Classical.epsilon fun m=>(∃s,τ=enc s/\ok (cD body m s) kf)/\∀k,k<m->¬∃s,τ=enc s/\ok (cD body k s) kf,fun τ hτ=>Classical.epsilon_spec (yn τ hτ)⟩
 obtain⟨μ,hμ⟩:=hμ
 refine⟨fun τ=>∃m s,τ=enc s/\ok (cD body m s) kf,μ,?_,?_⟩
 ·exact⟨_,s0,h0,h⟩
 ·intro τ hτ
  obtain⟨⟨s,e,hs⟩,_⟩:=hμ τ hτ
  generalize hm:μ τ=m at hs
  cases m with
  |zero=>grind [sa]
  |succ m=>
   subst e
   rw[xf]
   obtain⟨x,hx,k⟩:=rZ hs
   refine hb _ s ⟨x,hx,?_⟩
   cases x with
   |inr o=>exact k
   |inl t=>
    refine⟨⟨m,t,rfl,k⟩,?_⟩
    have h2:=(hμ (enc t) ⟨m,t,rfl,k⟩).2
    rcases Nat.lt_or_ge m (μ (enc t))with hlt|hge
    ·exact(h2 m hlt ⟨t,rfl,k⟩).elim
    ·omega
def yA{S O:Type}{body:S->Option (S⊕O)}{s0:S}{kf:O->Prop}{live:List (Nat×Bool)}{l:Nat}{r:IC}{Q:Exit->St->Prop}{E:St}(enc:S->St)
 (h0:E=enc s0)
 (hb:∀(J:St->Prop)(s:S),ok (body s) (jg (fun t=>J (enc t)) kf)->fY P r (I0 l live J Q) (enc s)):ok (iter body s0) kf->WE P l live r Q E:=by
 intro h
 have yn:∀τ,(∃m s,τ=enc s/\ok (cD body m s) kf)->∃m,(∃s,τ=enc s/\ok (cD body m s) kf)/\∀k,k<m->¬∃s,τ=enc s/\ok (cD body k s) kf:=by
  rintro τ ⟨m,s,h⟩
  induction m using Nat.strongRecOn generalizing s with
  |_ m ih=>grind
 have hμ:∃μ:St->Nat,∀τ,(∃m s,τ=enc s/\ok (cD body m s) kf)->(∃s,τ=enc s/\ok (cD body (μ τ) s) kf)/\∀k,k<μ τ->¬∃s,τ=enc s/\ok (cD body k s) kf:=by exact⟨fun τ=>Classical.epsilon fun m=>(∃s,τ=enc s/\ok (cD body m s) kf)/\∀k,k<m->¬∃s,τ=enc s/\ok (cD body k s) kf,fun τ hτ=>Classical.epsilon_spec (yn τ hτ)⟩
 obtain⟨μ,hμ⟩:=hμ
 refine⟨fun τ=>∃m s,τ=enc s/\ok (cD body m s) kf,μ,?_,?_⟩
 ·exact⟨_,s0,h0,h⟩
 ·intro τ hτ
  obtain⟨⟨s,e,hs⟩,_⟩:=hμ τ hτ
  generalize hm:μ τ=m at hs
  cases m with
  |zero=>grind [sa]
  |succ m=>
   subst e
   obtain⟨x,hx,k⟩:=rZ hs
   refine hb _ s ⟨x,hx,?_⟩
   cases x with
   |inr o=>exact k
   |inl t=>
    refine⟨⟨m,t,rfl,k⟩,?_⟩
    have h2:=(hμ (enc t) ⟨m,t,rfl,k⟩).2
    rcases Nat.lt_or_ge m (μ (enc t))with hlt|hge
    ·exact(h2 m hlt ⟨t,rfl,k⟩).elim
    ·omega
def nV{X Y α:Type}(M:Option (X⊕Y))(F:X->Option α)(G:Y->Option α):Option α:=match M with
 |some (.inl x)=>F x
 |some (.inr y)=>G y
 |none=>none
@[go_sem]theorem Yr{X Y α:Type}(M:Option (X⊕Y))(F:X->Option α)(G:Y->Option α)(K:α->Prop):ok (nV M F G) K=ok M (jg (fun x=>ok (F x) K) (fun y=>ok (G y) K)):=by
  cases M with
  |none=>simp[nV,ok]
  |some x=>grind [nV,ok,jg]
def zj{X Y α:Type}(M:Option (X⊕Y))(F:X->Option α)(G:Y->Option α):Option α:=nV M F G
@[go_sem]theorem ak1{X Y α:Type}(M:Option (X⊕Y))(F:X->Option α)(G:Y->Option α)(K:α->Prop):ok (zj M F G) K=okj M (jg (fun x=>ok (F x) K) (fun y=>ok (G y) K)):=Yr ..
def eF{X Y:Type}{M:Option (X⊕Y)}{kf:X->Prop}{kr:Y->Prop}{live:List (Nat×Bool)}{a b:IC}{Q:Exit->St->Prop}{E:St}(enc:X->St)
 (ha:∀J:St->Prop,ok M (jg (fun x=>J (enc x)) kr)->fY P a (pX live J Q) E)(hb:∀x,kf x->fY P b Q (enc x)):okj M (jg kf kr)->fY P (.join live a b) Q E:=fun⟨x,h,k⟩=>by
 refine⟨fun τ=>∃x,τ=enc x/\kf x,ha _ ⟨x,h,?_⟩,fun _⟨x,e,k⟩=>e▸hb x k⟩
 cases x with
 |inl x=>exact⟨x,rfl,k⟩
 |inr y=>exact k
@[go_sem]theorem Qz(c:UInt8):byteOf (.int .u8 c.toNat)=some c:=by
  unfold byteOf
  have:=c.toNat_lt
  simp only
  rw[if_pos AT]
  simp
@[go_sem]theorem Ib:∀l:List UInt8,bytesOf (flat l)=some l
  |[]=>rfl
  |c::l=>by
   show SZ (byteOf (.int .u8 c.toNat)) (bytesOf (flat l))=_
   rw[Qz,Ib l];rfl
def aC(n:Int):Int:=IntKind.i64.wrap n
def jt(n:Int):UInt8:=UInt8.ofNat (IntKind.u8.wrap n).toNat
def eu(n:Int):UInt32:=UInt32.ofNat (IntKind.u32.wrap n).toNat
def Zq(n:Int):UInt64:=UInt64.ofNat (IntKind.u64.wrap n).toNat
@[go_sem]theorem aiI(n:Int):ke .i64 n=aC n:=rfl
theorem EP(k:IntKind)(n:Int)(hk:k.signed=false):k.wrap n=n % (2^k.bits:Int):=by grind [IntKind.wrap]
@[go_sem]theorem wrap_u8(n:Int):ke .u8 n=(jt n).toNat:=by
  show IntKind.u8.wrap n=((UInt8.ofNat (IntKind.u8.wrap n).toNat).toNat)
  rw[EP _ _ rfl,UInt8.toNat_ofNat']
  have:(2^IntKind.u8.bits)=256:=D_
  grind
@[go_sem]theorem wrap_u32(n:Int):ke .u32 n=(eu n).toNat:=by
  show IntKind.u32.wrap n=((UInt32.ofNat (IntKind.u32.wrap n).toNat).toNat)
  rw[EP _ _ rfl,UInt32.toNat_ofNat']
  have:(2^IntKind.u32.bits)=4294967296:=D_
  grind
@[go_sem]theorem wrap_u64(n:Int):ke .u64 n=(Zq n).toNat:=by
  show IntKind.u64.wrap n=((UInt64.ofNat (IntKind.u64.wrap n).toNat).toNat)
  rw[EP _ _ rfl,UInt64.toNat_ofNat']
  have:(2^IntKind.u64.bits)=18446744073709551616:=D_
  grind
def lz(k:IntKind)(a b:Int):Int:=a*2^(min b.toNat k.bits)
def lA(k:IntKind)(a b:Int):Int:=a.fdiv (2^(min b.toNat k.bits))
def ql(k:IntKind)(a b:Int):Int:=(BitVec.ofInt k.bits a&&&BitVec.ofInt k.bits b).toNat
def J3(k:IntKind)(a b:Int):Int:=(BitVec.ofInt k.bits a |||BitVec.ofInt k.bits b).toNat
def ZD(k:IntKind)(a b:Int):Int:=(BitVec.ofInt k.bits a^^^BitVec.ofInt k.bits b).toNat
def xK(k:IntKind)(a b:Int):Int:=(BitVec.ofInt k.bits a&&& ~~~BitVec.ofInt k.bits b).toNat
@[go_sem]theorem afM(k k':IntKind)(a b:Int):sO .shl k k' a b=.prt (0<=b) (.int k (ke k (lz k a b))):=rfl
@[go_sem]theorem afN(k k':IntKind)(a b:Int):sO .shr k k' a b=.prt (0<=b) (.int k (lA k a b)):=rfl
@[go_sem]theorem afL(k k':IntKind)(a b:Int):sO .and k k' a b=kk k k' (.c8 (.int k (ke k (ql k a b)))):=rfl
@[go_sem]theorem aiO(k k':IntKind)(a b:Int):sO .or k k' a b=kk k k' (.c8 (.int k (ke k (J3 k a b)))):=rfl
@[go_sem]theorem afO(k k':IntKind)(a b:Int):sO .xor k k' a b=kk k k' (.c8 (.int k (ke k (ZD k a b)))):=rfl
@[go_sem]theorem ZR(k k':IntKind)(a b:Int):sO .andNot k k' a b=kk k k' (.c8 (.int k (ke k (xK k a b)))):=rfl
@[go_sem]theorem aiV(l:List UInt8)(k:Int):l.getD k.toNat 0=ix l k:=rfl
@[go_sem]theorem ajb(l:List UInt8)(lo hi:Int):(l.drop lo.toNat).take (hi -lo).toNat=part l lo hi:=rfl
attribute[go_sem] List.length_append true_or or_true eq_self_iff_true imp_self Bool.cond_true_left Bool.cond_false_right and_self and_true
def mv(d x:Nat):ar:=⟨some d,.px false (.t x),none⟩
def mt(d x:Nat):ar:=⟨some d,.px true (.t x),none⟩
def mvg(d x t:Nat)(w:Bool):ar:=⟨some d,.px false (.t x),some (t,w)⟩
def mtg(d x t:Nat)(w:Bool):ar:=⟨some d,.px true (.t x),some (t,w)⟩
def i1(d:Nat)(o:rF):ar:=⟨some d,o,none⟩
def XN(d t:Nat)(w:Bool)(o:rF):ar:=⟨some d,o,some (t,w)⟩
def i0(o:rF):ar:=⟨none,o,none⟩
def i0g(t:Nat)(w:Bool)(o:rF):ar:=⟨none,o,some (t,w)⟩
attribute[go_sem] mv mt mvg mtg i1 XN i0 i0g
@[go_sem]theorem aih(a:AV)(l:List AV)(off n:Nat):AB.sub (a::l) off n=((a::l).drop off).take n:=rfl
attribute[go_sem] GH TD
@[go_sem]theorem acM(E:St)(b:Bool)(a:AV)(d:Option Nat):ch E (.when b a) d=ch E a d:=D_
end Go.AB
end
section
namespace Go.AB
open Go
def nu(t s:ae):Prop:=∀b o,t b=some o->s b=some o
theorem nu.refl(s:ae):nu s s:=fun _ _ h=>h
theorem nu.set{t s:ae}{b:Nat}{o:SO}(h:nu t s)(hb:t b=none):nu t (s.set b o):=fun c p hc=>by
 unfold ae.set
 by_cases hcb:c=b
 ·grind
 ·rw[if_neg hcb];exact h c p hc
variable{P:Program}
def FN.forget{f:FuncId}{args:List AV}{s:ae}{Q:List AV->ae->Prop}(h:FN P f args s fun rs t=>∃t',nu t' t/\Q rs t'):FN P f args s Q:=by
 intro G w vs h1 h2 h3 h4
 refine(h G w vs h1 h2 h3 h4).mono fun e w'⟨v,rs,s',G',a1,⟨t',ht,hq⟩,a3,a4,a5⟩=>⟨v,rs,t',G',a1,hq,a3,fun b o hb=>a4 b o (ht b o hb),a5⟩
theorem cE(s:ae)(b:Nat)(o:SO):(s.set b o) b=some o:=by simp[ae.set]
theorem af{s:ae}{b c:Nat}{o:SO}(h:c≠b):(s.set b o) c=s c:=by simp[ae.set,h]
theorem set_set(s:ae)(b:Nat)(o p:SO):(s.set b o).set b p=s.set b p:=q_
theorem set_comm{a b:Nat}(h:a≠b){s:ae}{o p:SO}:(s.set b p).set a o=(s.set a o).set b p:=q_
def adO{s:ae}{b:Nat}{o:SO}(h:s b=some o):s=s.set b o:=q_
theorem aU{s:ae}{b:Nat}{o:SO}(h:s b=some o):s.set b o=s:=(adO h).symm
theorem di(s:ae)(b c:Nat)(o:SO):((s.set b o) c=none)=(c≠b/\s c=none):=q_
attribute[go_sem] cE set_set
def aJ{α:Type}{o:Option α}{K K':α->Prop}(h:ok o K)(hk:∀r,K r->K' r):ok o K':=h.imp fun r⟨h1,h2⟩=>⟨h1,hk r h2⟩
section
variable(Q:Exit->St->Prop)(E τ:St)
@[go_sem]theorem aeq(b:IC):fY P (.scope b) Q E=fY P b (xA Q) E:=by
  have:(fun x τ=>match x with|.goto _=>False|x=>Q x τ)=xA Q:=by funext e τ;cases e<;>rfl
  show fY P b (fun x τ=>match x with|.goto _=>False|x=>Q x τ) E=_
  rw[this]
@[go_sem]theorem adL:xA Q .ret τ=Q .ret τ:=rfl
@[go_sem]theorem abb(i:Nat):xA Q (.exit i) τ=Q (.exit i) τ:=rfl
end
def Ca(sz len n:Nat)(x:IX):AV->PR
 |.lp d o=>.prt (n+1<=len) (.lp d (o+n*sz))
 |.sp cs=>bif decide (len*sz<=cs.length)then .prt (n+1<=len) (.sp (cs.drop (n*sz)))else .no
 |.ref b o=>.prt (n+1<=len) (.ref b (o+n*sz))
 |.loc _=>Re (n+1<=len) (n*sz) x
 |_=>.no
attribute[go_sem] Ca.eq_1 Ca.eq_2 Ca.eq_3 Ca.eq_4
def JU{α:Type}(l:List α)(i:Int)(x:α):List α:=l.take i.toNat++[x]++l.drop (i.toNat+1)
def KY{α:Type}[aO α](l:List α)(i:Int)(x:α)(n:Nat)(hn:n=aO.w α):setAt (flat l) (i.toNat*n) (aO.cells x)=flat (JU l i x):=by
 subst hn
 unfold setAt JU
 rw[cT,cT,oC,qP,List.append_nil,uN,aO.len]
 rw[show i.toNat*aO.w α+aO.w α=(i.toNat+1)*aO.w α from by grind,zG]
@[go_sem]theorem ajH(l:List UInt32)(i:Int)(x:UInt32):setAt (flat l) (i.toNat*1) [.int .u32 x.toNat]=flat (JU l i x):=KY l i x 1 rfl
@[go_sem]theorem adN(a:AV)(l:List AV)(off:Nat)(news:List AV):setAt (a::l) off news=(a::l).take off++news++(a::l).drop (off+news.length):=rfl
@[go_sem]theorem ahy(z:List AV)(a:AV)(l:List AV):pad z (a::l)=bif(a::l).length==z.length then a::l else z:=rfl
@[go_sem]theorem Ej{α:Type}[aO α](n:Nat)(z:α):(List.replicate n (aO.cells z)).flatten=flat (List.replicate n z):=by simp[flat]
section
variable{d d':Option Nat}{K:St->Prop}{E:St}{b off:Nat}{news jh:List AV}
@[go_sem]theorem ajx:Sk d K (wrS E b (fQ off news jh))=(off+news.length<=jh.length/\K (({E with s:=E.s.set b (.cells (setAt jh off news))}:St).put d (.iJ []))):=by grind [fQ,wrS,Sk]
@[go_sem]theorem ajw{i:Nat}:Sk d K (wrL E i (fQ off news jh))=(off+news.length<=jh.length/\K ((E.put (some i) (.loc (setAt jh off news))).put d (.iJ []))):=by grind [fQ,wrL,Sk]
end
@[go_sem]theorem aaG(n:Nat):(((no_index (OfNat.ofNat n)):Nat):Int)=OfNat.ofNat n:=rfl
def pw{κ ν:Type}[BEq κ](m:List (κ×ν))(k:κ):Option ν:=match m with
 |[]=>none
 |x::r=>bif k==x.1 then some x.2 else pw r k
def LJ{κ ν:Type}[BEq κ](z:ν)(m:List (κ×ν))(k:κ):ν:=(pw m k).getD z
def Ri{κ ν:Type}[BEq κ](m:List (κ×ν))(k:κ):Bool:=(pw m k).isSome
def Ad{κ ν:Type}[BEq κ](m:List (κ×ν))(k:κ)(v:ν):List (κ×ν):=match m with
 |[]=>[(k,v)]
 |x::r=>bif k==x.1 then(k,v)::r else x::Ad r k v
def jE{κ ν:Type}(ek:κ->AV)(ev:ν->AV)(m:List (κ×ν)):List (AV×AV):=m.map fun p=>(ek p.1,ev p.2)
theorem Ds{κ ν:Type}{ek:κ->AV}{ev:ν->AV}{kk:mb}(h:∀a,ft kk (ek a)=true)(m:List (κ×ν)):kV kk (jE ek ev m)=true:=by grind [kV,jE]
section
variable{κ ν:Type}[BEq κ]{ek:κ->AV}{ev:ν->AV}
theorem QV(hk:∀a b,nc (ek a) (ek b)=(a==b))(m:List (κ×ν))(k:κ):fS (ek k) (jE ek ev m)=(pw m k).map ev:=by
 induction m with
 |nil=>rfl
 |cons x m ih=>grind [nc,fS,jE,pw]
theorem Vn(hk:∀a b,nc (ek a) (ek b)=(a==b))(m:List (κ×ν))(k:κ)(v:ν):uk (ek k) (ev v) (jE ek ev m)=jE ek ev (Ad m k v):=by
 induction m with
 |nil=>rfl
 |cons x m ih=>grind [nc,jE,uk,Ad]
def Ba{kk:mb}{z:ν}{za:AV}(h:∀a,ft kk (ek a)=true)(hk:∀a b,nc (ek a) (ek b)=(a==b))(hz:view za=ev z)(hv:∀a,view (ev a)=ev a)(hi:∀a,dF (ev a)=true)(ok:Bool)(m:List (κ×ν))(k:κ):
 oe kk za ok (ek k) (some (.map (jE ek ev m)))=.prt True (EU ok (ev (LJ z m k)) (Ri m k)):=by
 show Ks ok (ft kk (ek k)=true/\kV kk (jE ek ev m)=true) (uc za ok (fS (ek k) (jE ek ev m)))=_
 rw[QV hk,h,Ds h]
 unfold LJ Ri
 cases pw m k with
 |none=>
  show Ks ok _ (EU ok (view za) false)=_
  rw[hz]
  cases ok<;>simp[Ks,xp,EU,hi]
 |some v=>
  show Ks ok _ (EU ok (view (ev v)) true)=_
  rw[hv]
  cases ok<;>simp[Ks,xp,EU,hi]
def My{kk:mb}{b:Nat}{E:St}{d:Option Nat}{K:St->Prop}(h:∀a,ft kk (ek a)=true)(hk:∀a b,nc (ek a) (ek b)=(a==b))(hkv:∀a,view (ek a)=ek a)(m:List (κ×ν))(k:κ)(v:ν)(hv:view (ev v)=ev v)(hi:dF (ev v)=true):
 R8 kk b E (ek k) (ev v) d K (some (.map (jE ek ev m)))=K ({E with s:=E.s.set b (.map (jE ek ev (Ad m k v)))}.put d (.iJ [])):=by
 show((dF (ev v)=true/\ft kk (ek k)=true/\kV kk (jE ek ev m)=true)/\K ({E with s:=E.s.set b (.map (uk (view (ek k)) (view (ev v)) (jE ek ev m)))}.put d (.iJ [])))=_
 grind [Vn,Ds]
end
theorem ml(a b:Int):nc (.int .i64 a) (.int .i64 b)=(a==b):=by simp[nc,cellsOf,sc,UC]
attribute[go_sem] yG.eq_1
theorem al{κ ν:Type}(ek:κ->AV)(ev:ν->AV):jE ek ev []=[]:=rfl
@[go_sem]theorem ajt(n:Nat):(List.replicate n [AV.int .i64 0]).flatten=flat (List.replicate n (0:Int)):=Ej n (0:Int)
@[go_sem]theorem alh(n:Nat):(List.replicate n [AV.int .u8 0]).flatten=flat (List.replicate n (0:UInt8)):=Ej n (0:UInt8)
@[go_sem]theorem aju(n:Nat):(List.replicate n [AV.int .u32 0]).flatten=flat (List.replicate n (0:UInt32)):=Ej n (0:UInt32)
end Go.AB
end
section
namespace Go.AB
open Go
attribute[go_sem] start sv lq ur VF rL xu Nat.ble_eq
def mix:Go.Proofs.Tryz.prog.follows .mixedOrders=true:=By
theorem bL:((true=false)=False)/\((false=true)=False)/\(∀p:Prop,(False->p)=True)/\(∀p:Prop,(True->p)=p)/\(∀p:Prop,(True/\p)=p)/\(∀p:Prop,(p/\True)=p)/\((!true)=false)/\((!false)=true)/\(∀b,(true||b)=true)/\(∀b,(false||b)=b):=BY
abbrev FF{α:Type}(f:Nat)(args:List AV)(m:Option α)(g:α->List AV):Prop:=∀{s:ae}{Q:List AV->ae->Prop},ok m (fun r=>Q (g r) s)->FN Go.Proofs.Tryz.prog f args s Q
def FP{f:Nat}{args:List AV}{s:ae}{Q:List AV->ae->Prop}(n:Nat)(res:List jr)(ic:IC)(hf:ey Go.Proofs.Tryz.prog f n res ic=true)(hv:(rL args&&Nat.ble args.length n)=true)(hw:fY Go.Proofs.Tryz.prog ic (xu res Q) (start args s)):FN Go.Proofs.Tryz.prog f args s Q:=FN.of (kJ mix) hf (Bool.and_eq_true_iff.1 hv).1 (Nat.le_of_ble_eq_true (Bool.and_eq_true_iff.1 hv).2) hw
def FS{f:Nat}{args:List AV}{s:ae}{Q:List AV->ae->Prop}{Z:Prop}(n:Nat)(res:List jr)(num:Nat)(z:Z)(hf:ey Go.Proofs.Tryz.prog f n res (dec num)=true:=by kernel_rfl)(hv:(rL args&&Nat.ble args.length n)=true:=by rfl)(e:Z->fY Go.Proofs.Tryz.prog (dec num) (xu res Q) (start args s):=by intro h;(conv in dec _=>reduce);exact h):FN Go.Proofs.Tryz.prog f args s Q:=FP n res (dec num) hf hv (e z)
def FR{f:Nat}{args:List AV}{s:ae}{Q:List AV->ae->Prop}{X Z C:Prop}(n:Nat)(res:List jr)(num:Nat)(m:C)(z:Z)(hf:ey Go.Proofs.Tryz.prog f n res (dec num)=true:=by kernel_rfl)(hv:(rL args&&Nat.ble args.length n)=true:=by rfl)(e:C->Z->X->fY Go.Proofs.Tryz.prog (dec num) (xu res Q) (start args s):=by intro m h;(conv in dec _=>reduce);rw[m];exact h):X->FN Go.Proofs.Tryz.prog f args s Q:=fun x=>FP n res (dec num) hf hv (e m z x)
def FC{f:Nat}{args:List AV}{s:ae}{Q:List AV->ae->Prop}{X C:Prop}(n:Nat)(res:List jr)(num:Nat)(m:C)(hf:ey Go.Proofs.Tryz.prog f n res (dec num)=true:=by kernel_rfl)(hv:(rL args&&Nat.ble args.length n)=true:=by rfl)(e:C->X->fY Go.Proofs.Tryz.prog (dec num) (xu res Q) (start args s):=by intro m;(conv in dec _=>reduce);rw[m];repeat'(first|simp -implicitDefEqProofs only[go_sem,seval])):X->FN Go.Proofs.Tryz.prog f args s Q:=fun x=>FP n res (dec num) hf hv (e m x)
def kK{α:Type}{m:Option α}{f:Nat}{args:List AV}{s:ae}{g:α->List AV}{k:α->ae}{r:α}(hf:∀{Q:List AV->ae->Prop},ok m (fun r=>Q (g r) (k r))->FN Go.Proofs.Tryz.prog f args s Q)(h:m=some r):FE Go.Proofs.Tryz.prog f args s (g r) (k r):=hf ⟨r,h,rfl,rfl⟩
def FO{f n:Nat}{res:List jr}{ic:IC}{args:List AV}{s:ae}{Q:List AV->ae->Prop}(hf:ey Go.Proofs.Tryz.prog f n res ic=true)(hv:rL args=true)(hn:Nat.ble args.length n=true)(hw:fY Go.Proofs.Tryz.prog ic (xu res Q) (start args s)):FN Go.Proofs.Tryz.prog f args s Q:=FN.of (kJ mix) hf hv (Nat.le_of_ble_eq_true hn) hw
def ma(G G2:Gh):Prop:=∀b,G.R b<=G2.R b/\(G.O b≠.sh->G2.O b=G.O b/\G2.R b=G.R b)
def FN.conv{P:Program}{f:FuncId}{args:List AV}{s:ae}{Q Q':List AV->ae->Prop}(h:FN P f args s Q)
 (k:∀rs s',Q rs s'->∀G w v,cq G w->ba G w s'->nt G w rs v->∃rs2 s2 G2,Q' rs2 s2/\ma G G2/\cq G2 w/\ba G2 w s2/\nt G2 w rs2 v):FN P f args s Q':=by
 intro G w vs h1 h2 h3 h4
 refine(h G w vs h1 h2 h3 h4).mono fun e w'⟨v,rs,s',G',a,hq,hg,hs,hr,hp⟩=>?_
 obtain⟨rs2,s2,G2,k1,k2,k3,k4,k5⟩:=k rs s' hq G' w' v hg hs hr
 refine⟨v,rs2,s2,G2,a,k1,k3,k4,k5,hp.os,hp.tape,hp.output,hp.drawn,hp.size,fun b hb=>Nat.le_trans (hp.mono b hb) (k2 b).1,hp.nD,hp.frame,fun b hb ho=>?_,fun b hb ho=>?_⟩
 ·obtain⟨q1,q2⟩:=hp.jF b hb ho
  obtain⟨q3,q4⟩:=(k2 b).2 A_
  grind
 ·obtain⟨q1,q2⟩:=hp.pZ b hb ho
  obtain⟨q3,q4⟩:=(k2 b).2 A_
  grind
section
variable{G:Gh}{w:World}{s:ae}{b:Nat}
def Qa(h:ba G w s)(hg:cq G w){cs:List AV}(hs:s b=some (.cells cs))(r:Nat):
 ma G (G.pR b (.res 0) r)/\cq (G.pR b (.res 0) r) w/\ba (G.pR b (.res 0) r) w (s.del b)/\(∀a v,VR w G.R a v->VR w (G.pR b (.res 0) r).R a v):=by
 obtain⟨q2,q3,c,t,q4,q5,q6⟩:=h b _ hs
 have hR:∀b',G.R b'<=(G.pR b (.res 0) r).R b':=fun b'=>by
  by_cases hb:b'=b
  ·grind
  ·simp[hb]
 have hv:∀a v,VR w G.R a v->VR w (G.pR b (.res 0) r).R a v:=fun a v h=>h.mono hR fun _ _ _=>rfl
 have same:∀b',b'≠b->(G.pR b (.res 0) r).O b'=G.O b'/\(G.pR b (.res 0) r).R b'=G.R b':=fun b' hb'=>⟨H_,H_⟩
 have hlt:=hg.lt T_
 refine⟨fun b'=>⟨hR b',fun hb'=>same b' fun e=>A_⟩,⟨fun b' hb'=>?_,fun b' hb'=>?_⟩,?_,hv⟩
 ·have:b'≠b:=AT
  rw[(same b' this).1,hg.jI b' hb']
 ·have:b'≠b:=AT
  rw[(same b' this).2,hg.jY b' hb']
 ·intro b' o hb'
  unfold ae.del at hb'
  split at hb'
  ·cases hb'
  ·rename_i hne
   obtain⟨r1,r2,r3⟩:=h b' o hb'
   refine⟨(same b' hne).1.trans r1,(same b' hne).2.trans r2,?_⟩
   cases o with
   |cells cs'=>
    obtain⟨c',t',r4,r5,r6⟩:=r3
    exact⟨c',t',r4,r5.mono hv (fun b'' j vB=>A_),r6⟩
   |map es=>
    obtain⟨jV,clock,r4,r5,r6⟩:=r3
    exact⟨jV,clock,r4,r5,fun j x y hx hy=>⟨hv _ _ (r6 j x y hx hy).1,hv _ _ (r6 j x y hx hy).2⟩⟩
def YA(h:ba G w s)(hg:cq G w){n cap sz:Nat}{cs sp:List AV}{v:Value}(hs:s b=some (.cells (cs++sp)))(hc:0<cap)(hn:n<=cap)(hl:(cs++sp).length=cap*sz)(hl2:cs.length=n*sz)(hvw:views (cs++sp)=cs++sp)
 (hr:nt G w [.arr b 0 n cap] v):∃G2,ma G G2/\cq G2 w/\ba G2 w (s.del b)/\nt G2 w [.us sz n cs] v:=by
 obtain⟨k1,k2,k3,k4⟩:=Qa h hg hs 0
 obtain⟨q2,q3,c,t,q4,q5,q6⟩:=h b _ hs
 refine⟨_,k1,k2,k3,.inr ⟨b,cap,c,t,sp,hc,hn,VR.pW hr.1 hc,BY,BY,q4,by rw[q5.1,hl],hl2,hl,fun j x u hx hu=>k4 _ _ (q5.2 j x u hx hu).1,q6.flat hvw,hvw⟩⟩
def Vd{sz:Nat}{v:Value}(hr:nt G w [.arr b 0 0 0] v):nt G w [.us sz 0 []] v:=by
 rcases VR.cK hr.1 with e|⟨_,_,e⟩
 ·exact .inl ⟨rfl,rfl,.inr ⟨b,0,e⟩⟩
 ·exact .inl ⟨rfl,rfl,.inl e⟩
def PU(h:ba G w s)(hg:cq G w){n cap sz:Nat}{cs sp:List AV}{v:Value}(hs:s b=some (.cells (cs++sp)))(hc:0<cap)(hn:n<=cap)(hl:(cs++sp).length=cap*sz)(hl2:cs.length=n*sz)(hvw:views cs=cs)
 (hr:nt G w [.arr b 0 n cap] v):∃G2,ma G G2/\cq G2 w/\ba G2 w (s.del b)/\nt G2 w [.sl true sz n cs] v:=by
 obtain⟨k1,k2,k3,k4⟩:=Qa h hg hs (n*sz)
 obtain⟨q2,q3,c,t,q4,q5,q6⟩:=h b _ hs
 have e:=VR.pW hr.1 hc
 refine⟨_,k1,k2,k3,?_,?_⟩
 ·rw[e]
  refine .sl true sz n cs b 0 cap (fun j=>c.getD j undef) (q6.left.flat hvw) hl2 H_ hn (fun j x hj=>?_) (fun j x hj=>?_)
  all_goals
   have hj':(cs++sp)[j]? =some x:=A_
   have hlt:j<c.size:=by rw[q5.1];exact(List.getElem?_eq_some_iff.1 hj').1
   have kq:c[j]? =some (c.getD j undef):=H_
  ·rw[Nat.zero_add,cell_of_row w q4,kq]
  ·exact k4 _ _ (q5.2 j x _ hj' kq).1
 ·intro base m' cQ hv _
  rw[e]at hv
  injection hv with e1 e2 e3
  subst e3
  exact⟨b,0,c,t,(0,0),e1.symm,BY,BY,q4,by rw[q5.1,hl,Nat.zero_add],fun j _ hj=>A_,Nat.le_refl _,rfl,.inl rfl,fun j y _ hy=>by
   have hlt:j<(cs++sp).length:=by rw[<-q5.1];exact(Array.getElem?_eq_some_iff.1 hy).1
   exact rj (q6 _ (List.getElem_mem hlt)) (q5.2 j _ y (List.getElem?_eq_getElem hlt) hy).1⟩
def LX{sz:Nat}{v:Value}(hr:nt G w [.arr b 0 0 0] v):nt G w [.sl true sz 0 []] v:=by
 rcases VR.cK hr.1 with e|⟨_,_,e⟩
 ·refine⟨?_,?_⟩
  ·rw[e];exact .sl true sz 0 [] b 0 0 (fun _=>undef) Fl.nil BY BY (Nat.le_refl _) (fun j c hj=>A_) (fun j c hj=>A_)
  ·intro base m' cQ hv hc;grind
 ·refine⟨by rw[e];exact .slnil _ _,?_⟩
  intro base m' cQ hv hc;grind
end
theorem iX{s:ae}{b:Nat}{o:SO}(h:s b=none):(s.set b o).del b=s:=by grind [ae.set,ae.del]
@[go_sem]theorem aY{s:ae}{b:Nat}{o:SO}:(s.set b o) b=some o:=by unfold ae.set;simp
def Sub(s2 s:ae):Prop:=∀b o,s2 b=some o->s b=some o
theorem Sub.refl(s:ae):Sub s s:=fun _ _ h=>h
theorem Sub.set{s s2:ae}(h:Sub s2 s){b:Nat}{o:SO}(hb:s b=none):Sub s2 (s.set b o):=fun b' o' h'=>by
 have:=h b' o' h'
 grind [ae.set]
def Sub.F0{s s2:ae}(h:Sub s2 s){b:Nat}{o:SO}:Sub (s2.set b o) (s.set b o):=fun b' o' h'=>by
 unfold ae.set at h'⊢
 split
 ·grind
 ·rename_i e;rw[if_neg e]at h';exact h b' o' h'
theorem Sub.none{s s2:ae}(h:Sub s2 s){b:Nat}(hb:s b=none):s2 b=none:=by
 cases h2:s2 b with
 |none=>rfl
 |some o=>have:=h b o h2;grind
theorem ba.sub{G:Gh}{w:World}{s s2:ae}(h:ba G w s)(hs:Sub s2 s):ba G w s2:=fun b o hb=>h b o (hs b o hb)
theorem ma.refl(G:Gh):ma G G:=fun _=>⟨Nat.le_refl _,fun _=>⟨rfl,rfl⟩⟩
def FN.j8{P:Program}{f:FuncId}{args:List AV}{s:ae}{Q:List AV->ae->Prop}(h:FN P f args s fun rs s'=>∃s2,Sub s2 s'/\Q rs s2):FN P f args s Q:=h.conv fun rs _⟨s2,h1,h2⟩ G _ _ hg hs hr=>⟨rs,s2,G,h2,ma.refl G,hg,hs.sub h1,hr⟩
def FN.xy{P:Program}{f:FuncId}{args:List AV}{s s2:ae}{Q:List AV->ae->Prop}{sz:Nat}{cs:List AV}{n:Nat}(hl2:cs.length=n*sz)(hvw:views cs=cs)(hq:Q [.sl true sz n cs] s2)
 (h:FN P f args s fun rs s'=>(∃b cap sp,rs=[.arr b 0 n cap]/\s' b=some (.cells (cs++sp))/\0<cap/\n<=cap/\(cs++sp).length=cap*sz/\Sub s2 (s'.del b))\/(n=0/\cs=[]/\Sub s2 s'/\∃b,rs=[.arr b 0 0 0])):FN P f args s Q:=by
 refine h.conv fun rs s' hq' G w v hg hs hr=>?_
 rcases hq' with⟨b,cap,sp,rfl,hb,hc,hn,hl,fX⟩|⟨rfl,rfl,fX,b,rfl⟩
 ·obtain⟨G2,k1,k2,k3,k4⟩:=PU hs hg hb hc hn hl hl2 hvw hr
  exact⟨_,_,G2,hq,k1,k2,k3.sub fX,k4⟩
 ·exact⟨_,_,G,hq,ma.refl G,hg,hs.sub fX,LX hr⟩
def FN.VN{P:Program}{f:FuncId}{args:List AV}{s s2:ae}{Q:List AV->ae->Prop}{sz:Nat}{cs:List AV}{n:Nat}(hl2:cs.length=n*sz)(hq:Q [.us sz n cs] s2)
 (h:FN P f args s fun rs s'=>(∃b cap sp,rs=[.arr b 0 n cap]/\s' b=some (.cells (cs++sp))/\0<cap/\n<=cap/\(cs++sp).length=cap*sz/\views (cs++sp)=cs++sp/\Sub s2 (s'.del b))\/(n=0/\cs=[]/\Sub s2 s'/\∃b,rs=[.arr b 0 0 0])):FN P f args s Q:=by
 refine h.conv fun rs s' hq' G w v hg hs hr=>?_
 rcases hq' with⟨b,cap,sp,rfl,hb,hc,hn,hl,hvw,fX⟩|⟨rfl,rfl,fX,b,rfl⟩
 ·obtain⟨G2,k1,k2,k3,k4⟩:=YA hs hg hb hc hn hl hl2 hvw hr
  exact⟨_,_,G2,hq,k1,k2,k3.sub fX,k4⟩
 ·exact⟨_,_,G,hq,ma.refl G,hg,hs.sub fX,Vd hr⟩
def Jk:AV->Bool
 |.int _ _=>true
 |.bool _=>true
 |.str _=>true
 |_=>false
theorem Ak{w w':World}{R R':Nat->Nat}{a:AV}{v:Value}(h:Jk a=true)(hv:VR w R a v):VR w' R' a v:=by
 cases a<;>first|(cases h)|skip
 ·rw[VR.gF hv];exact .bool _
 ·rw[VR.b9 hv];exact .int _ _
 ·rw[VR.gm hv];exact .str _
def FN.borrow{P:Program}{f:FuncId}{args AH:List AV}{s:ae}{Q:List AV->ae->Prop}(b k:Nat)
 (h:FN P f AH uW fun rs _=>rs.all Jk=true/\Q rs s)
 (ha:∀(G:Gh)(w:World)(vs:Array Value),ba G w s->k8 w G.R args vs->k8 w (fun i=>if i=b/\b<w.heap.size then k else G.R i) AH vs):FN P f args s Q:=by
 intro G w vs h1 h2 h3 h4
 let G1:Gh:=⟨fun i=>if i=b/\b<w.heap.size then k else G.R i,fun i=>if G.O i=.none then .none else .frame⟩
 have hO1:∀i,G1.O i=.frame\/G1.O i=.none:=fun i=>A_
 have hg1:cq G1 w:=⟨fun i hi=>by simp[G1,h1.jI i hi],fun i hi=>by
  have:¬(i=b/\b<w.heap.size):=AT
  show(if i=b/\b<w.heap.size then k else G.R i)=0
  rw[if_neg this,h1.jY i hi]⟩
 refine(h G1 w vs hg1 (fun i=>(hO1 i).elim (fun e=>.inr (.inl e)) .inl) (fun i o hi=>by cases hi) (ha G w vs h3 h4)).mono fun e w'⟨v,rs,s',G',he,⟨hpl,hq⟩,_,_,hr,hp⟩=>?_
 have same:=fun i hi=>hp.frame i hi (hO1 i)
 have dG:∀i j,i<w.heap.size->w'.cell? ⟨i,j,none⟩=w.cell? ⟨i,j,none⟩:=fun i j hi=>World.cell?_of_block (same i hi)
 have hlt:∀i,G.O i≠.none->i<w.heap.size:=fun i hi=>h1.lt hi
 have bK:aI G w G w':=⟨hp.os,hp.tape,hp.output,hp.drawn,hp.size,fun _ _=>Nat.le_refl _,fun i j hi _=>dG i j hi,fun i hi _=>same i hi,fun i _ ho=>⟨ho,rfl⟩,fun i _ ho=>⟨ho,rfl⟩⟩
 have hg':cq G w':=⟨fun i hi=>h1.jI i (Nat.le_trans hp.size hi),fun i hi=>h1.jY i (Nat.le_trans hp.size hi)⟩
 refine⟨v,rs,s,G,he,hq,hg',h3.mono h1 bK (fun i hi=>⟨hi,rfl,same i (hlt i A_)⟩) (fun i c j _ hc=>⟨hc,rfl,same c (hlt c A_)⟩),?_,bK⟩
 match rs,hpl,hr with
 |[],_,hr=>
  obtain⟨ys,q1,q2,q3⟩:=hr
  exact⟨ys,q1,q2,fun j x y hx hy=>V_⟩
 |[a],hpl,hr=>
  have hpa:=by simpa using hpl
  have hr':VR w' G'.R a v/\dI G' w' (.res 0) a v:=by cases a<;>first|exact hr|(cases hpa;done)
  have hv:=Ak (w':=w') (R':=G.R) hpa hr'.1
  cases a<;>first|exact⟨hv,trivial⟩|(cases hpa;done)
 |a1::a2::rr,hpl,hr=>
  obtain⟨ys,q1,q2,q3⟩:=hr
  refine⟨ys,q1,q2,fun j x y hx hy=>?_⟩
  have hpa:=List.all_eq_true.1 hpl x (List.mem_of_getElem? hx)
  refine⟨Ak hpa (q3 j x y hx hy).1,?_⟩
  cases x<;>first|trivial|(done)
def Cx{G:Gh}{w:World}{s:ae}{b n cap sz:Nat}{cs:List AV}{v:Value}(h:ba G w s)(hlen:cs.length=n*sz)(hn:n<=cap)(hvw:views cs=cs)(hs:cs≠[]->∃sp,s b=some (.cells (cs++sp)))(hv:VR w G.R (.arr b 0 n cap) v)(hsz:0<sz):
 VR w (fun i=>if i=b/\b<w.heap.size then n*sz else G.R i) (.sl false sz n cs) v:=by
 by_cases hcs:cs=[]
 ·subst hcs
  have hn0:n=0:=by
   rcases Nat.mul_eq_zero.1 hlen.symm with h|h
   ·exact h
   ·omega
  subst hn0
  rcases VR.cK hv with e|⟨_,_,e⟩
  ·rw[e];exact .sl false sz 0 [] b 0 cap (fun _=>undef) Fl.nil BY (Nat.zero_le _) (Nat.zero_le _) (fun j c hj=>Lg) (fun j c hj=>Lg)
  ·rw[e];exact .slnil _ _
 ·obtain⟨sp,hs⟩:=hs hcs
  obtain⟨q2,q3,c,t,q4,q5,q6⟩:=h b _ hs
  have hn0:0<n:=by
   rcases Nat.eq_zero_or_pos n with h|h
   ·simp_all
   ·exact h
  have e:=VR.pW hv AT
  rw[e]
  have agz:∀a u,VR w G.R a u->VR w (fun i=>if i=b/\b<w.heap.size then n*sz else G.R i) a u:=fun a u h=>h.mono (fun i=>A_) fun _ _ _=>rfl
  refine .sl false sz n cs b 0 cap (fun j=>c.getD j undef) (q6.left.flat hvw) hlen A_ hn (fun j x hj=>?_) (fun j x hj=>?_)
  all_goals
   have hj':(cs++sp)[j]? =some x:=A_
   have hlt:j<c.size:=by rw[q5.1];exact(List.getElem?_eq_some_iff.1 hj').1
   have kq:c[j]? =some (c.getD j undef):=H_
  ·rw[Nat.zero_add,cell_of_row w q4,kq]
  ·exact agz _ _ (q5.2 j x _ hj' kq).1
def Bp:Nat:=18446744073709551616
@[go_sem]theorem ai6(a b:Nat):Nat.beq a b=(a==b):=Bool.eq_iff_iff.2 BY
def Qu{A C:Prop}{b:Bool}(h:b=true)(k:A->C):A->b=true/\C:=fun x=>⟨h,k x⟩
def ahc{A C:Prop}{a b:Nat}(h:a=b)(k:A->C):A->a=b/\C:=fun x=>⟨h,k x⟩
def HU{P:Program}{f:FuncId}{as1 as2 rs:List AV}{s s':ae}(e:as1=as2)(h:FE P f as1 s rs s'):FE P f as2 s rs s':=e▸h
def UL(E:St)(d:Option Nat)(K:St->Prop)(b off:Nat):Option SO->Prop
 |some (.cells cs)=>kH off cs fun cs' a=>K ({E with s:=E.s.set b (.cells cs')}.put d a)
 |_=>False
@[go_sem]theorem acC(E:St)(d:Option Nat)(K:St->Prop)(b off:Nat):sf E d K (.ref b off)=UL E d K b off (E.s b):=D_
@[go_sem]theorem Ye(E:St)(d:Option Nat)(K:St->Prop)(b off:Nat)(cs:List AV):UL E d K b off (some (.cells cs))=kH off cs fun cs' a=>K ({E with s:=E.s.set b (.cells cs')}.put d a):=rfl
@[go_sem]theorem ad4(o:Bool)(sz n:Nat)(ds cs:List AV)(k:List AV->AV->Prop):kH 0 (.sl o sz n ds::cs) k=k (.sl false sz n ds::cs) (.sl o sz n ds):=rfl
@[go_sem]theorem aim(t n:Nat)(ds cs:List AV)(k:List AV->AV->Prop):kH 0 (.bb t n ds::cs) k=k (.sl false 1 n ds::cs) (.bb t n ds):=rfl
@[go_sem]theorem ad3(a:AV)(n:Nat)(cs:List AV)(k:List AV->AV->Prop):kH (n+1) (a::cs) k=kH n cs fun cs' x=>k (a::cs') x:=D_
def ixI:AV->Option Int
 |.int _ n=>some n
 |_=>none
@[go_sem]theorem agS(f:IX->AV)(d:Int):G7 f none d=some d:=rfl
@[go_sem]theorem agT(f:IX->AV)(x:IX)(d:Int):G7 f (some x) d=ixI (f x):=rfl
@[go_sem]theorem ai2(k:IntKind)(n:Int):ixI (.int k n)=some n:=rfl
attribute[go_sem] Option.isSome_some Bool.cond_true
@[go_sem]theorem ZP(off cap sz:Nat):jA off cap 0 sz=off:=by grind [jA]
@[go_sem]theorem toNat_zero:(0:Int).toNat=0:=rfl
attribute[go_sem] Int.toNat_natCast Int.sub_zero Nat.sub_zero
@[go_sem]theorem toNat_sub'(a b:Nat):((a:Int) -(b:Int)).toNat=a -b:=BY
section
variable{E:St}{d:Option Nat}{K:St->Prop}{sz by':Nat}{zero:List AV}{b off n cap m:Nat}{cs ds:List AV}
theorem uy{s:ae}(hs:s b=some (.cells cs))(hf:off+m*sz<=cs.length):vM s sz (.arr b off m cap)=some (m,views (AB.sub cs off (m*sz))):=by
 show(bif m==0 then some (0,[])else jU m sz off (s b))=_
 by_cases hm:m=0
 ·subst hm;simp[AB.sub,views]
 ·rw[show(m==0)=false by grind,hs]
  show(bif decide (off+m*sz<=cs.length)then some (m,views (AB.sub cs off (m*sz)))else none)=_
  grind
theorem gn(s:ae)(ow:Bool):vM s sz (.sl ow sz m ds)=some (m,views ds):=by unfold vM;simp
theorem RR(s:ae):vM s sz (.arr b off 0 cap)=some (0,[]):=rfl
theorem oI{s:ae}(hs:s b=some (.cells cs))(hf:off+n*sz<=cs.length):pA s sz b off n=some (views (AB.sub cs off (n*sz))):=by
 unfold pA
 by_cases hm:n=0
 ·subst hm;simp[AB.sub,views]
 ·rw[show(n==0)=false by grind,hs]
  show((bif decide (off+n*sz<=cs.length)then some (n,views (AB.sub cs off (n*sz)))else none)).map Prod.snd=_
  grind
def lf(hz:zero.length=sz)(hs:E.s b=some (.cells cs))(hf:off+cap*sz<=cs.length)(hm:n+m<=cap)
 (hk:K ({E with s:=E.s.set b (.cells (setAt cs (off+n*sz) ds))}.put d (.arr b off (n+m) cap))):eP sz by' zero E d K (.arr b off n cap) (some (m,ds)):=by
 have hn:off+n*sz<=cs.length:=Nat.le_trans (Nat.add_le_add_left (Nat.mul_le_mul_right _ AT) _) hf
 show Qr sz by' zero E d K b off n cap m ds (pA E.s sz b off n)
 rw[oI hs hn]
 refine⟨hz,fun _=>.inr ⟨Xc6,?_⟩,fun h=>AT⟩
 rw[hs];exact hk
def eo(hz:zero.length=sz){olds:List AV}(ho:pA E.s sz b off n=some olds)(hm:cap<n+m)(hr:(n+m)*by'<=room)
 (hk:∀b' cQ,E.s b'=none->n+m<=cQ->K ({E with s:=E.s.set b' (.cells (olds++ds++(List.replicate (cQ -(n+m)) zero).flatten))}.put d (.arr b' 0 (n+m) cQ))):eP sz by' zero E d K (.arr b off n cap) (some (m,ds)):=by
 show Qr sz by' zero E d K b off n cap m ds (pA E.s sz b off n)
 rw[ho]
 exact⟨hz,fun h=>AT,fun _=>⟨hr,hk⟩⟩
def mL(hz:zero.length=sz){olds:List AV}(ho:pA E.s sz b off n=some olds)(hm:n<=cap)(hk:K (E.put d (.arr b off n cap))):eP sz by' zero E d K (.arr b off n cap) (some (0,ds)):=by
 show Qr sz by' zero E d K b off n cap 0 ds (pA E.s sz b off n)
 rw[ho]
 exact⟨hz,fun _=>.inl ⟨rfl,hk⟩,fun h=>AT⟩
def me(hs:E.s b=some (.cells cs))(hf:off+n*sz<=cs.length)
 (hk:K ({E with s:=E.s.set b (.cells (setAt cs off (ds.take (min m n*sz))))}.put d (.int .i64 (min m n:Nat)))):zA sz E d K (.arr b off n cap) (some (m,ds)):=by
 refine .inr ⟨Xc6,?_⟩
 rw[hs];exact hk
def wQ(hz:views zero=zero)(hs:E.s b=some (.cells cs))(hf:off+n*zero.length<=cs.length)
 (hk:K ({E with s:=E.s.set b (.cells (setAt cs off (List.replicate n zero).flatten))}.put d (.iJ []))):xX zero E d K (.arr b off n cap):=by
 refine .inr ⟨Xc6,hz,?_⟩
 rw[hs];exact hk
def Ih(h0:n=0)(hk:K (E.put d (.iJ []))):xX zero E d K (.arr b off n cap):=.inl ⟨h0,hk⟩
def xN(hz:zero.length=sz)(hv:views zero=zero){olds:List AV}(ho:pA E.s sz b off n=some olds)(hm:cap<n+m)(hr:(n+m)*by'<=room)
 (hk:∀b' cQ,E.s b'=none->n+m<=cQ->K ({E with s:=E.s.set b' (.cells (olds++(List.replicate m zero).flatten++(List.replicate (cQ -(n+m)) zero).flatten))}.put d (.arr b' 0 (n+m) cQ))):xM sz by' zero E d K (.arr b off n cap) (.int .i64 (m:Nat)):=by
 show 0<=(m:Int)/\_
 grind [Int.natCast_nonneg,Int.toNat_natCast,Qr,pA]
def Yw{P:Program}{f:FuncId}{ow:Bool}{b' Rm n' cQ m:Nat}{cs:List AV}(h1:J8 P f)(h2:0<m)(h3:cs≠[])(h4:0<cQ){o:List AV}(h5:E.s b'=some (.cells o))(h6:o.length≠0)(hk:K (E.put d (.bool false))):Yv P f E d K (.sl ow sz m cs) (.arr b' Rm n' cQ):=by
 cases m with
 |zero=>omega
 |succ m=>cases cs with
  |nil=>grind
  |cons c cs=>cases cQ with
   |zero=>omega
   |succ cQ=>
    refine⟨h1,?_,hk⟩
    cases o with
    |nil=>grind
    |cons _ _=>rw[h5];exact trivial
theorem adM(C X Y:List AV)(k k':Nat)(h1:k'=k+Y.length)(h2:k'+X.length<=C.length):setAt (setAt C k' X) k Y=C.take k++Y++X++C.drop (k'+X.length):=by
 unfold setAt
 grind
theorem fV{off cap l sz:Nat}(h:l<cap):jA off cap l sz=off+l*sz:=by grind [jA]
end
section
variable{α:Type}[aO α]
theorem CW(l:List α)(k:Nat):flat (l.take k)=(flat l).take (k*aO.w α):=(uN l k).symm
theorem Nt(l:List α)(k:Nat):flat (l.drop k)=(flat l).drop (k*aO.w α):=(zG l k).symm
theorem gJ(l:List α)(sp:List AV)(n j m:Nat)(hn:n=aO.w α)(h:j+m<=l.length):AB.sub (flat l++sp) (j*n) (m*n)=flat ((l.drop j).take m):=by
 subst hn
 rw[<-lH l _ j m rfl]
 unfold AB.sub
 have h1:j*aO.w α<=(flat l).length:=by rw[au];exact Nat.mul_le_mul_right _ AT
 rw[List.drop_append_of_le_length h1,List.take_append_of_le_length]
 rw[List.length_drop,au,<-Nat.sub_mul]
 exact Nat.mul_le_mul_right _ AT
theorem im(l l':List α)(sp:List AV)(n i:Nat)(hn:n=aO.w α)(h:i+l'.length<=l.length):setAt (flat l++sp) (i*n) (flat l')=flat (l.take i++l'++l.drop (i+l'.length))++sp:=by
 unfold setAt
 have e1:i*aO.w α+(flat l').length=(i+l'.length)*aO.w α:=by rw[au,Nat.add_mul]
 grind [aO.w,flat,au,Nat.mul_le_mul_right,cT,CW,Nt,List.append_assoc]
theorem y6(l l':List α)(sp:List AV)(n:Nat)(hn:n=aO.w α)(h:l'.length*n<=sp.length):setAt (flat l++sp) (l.length*n) (flat l')=flat (l++l')++sp.drop (l'.length*n):=by
 subst hn
 unfold setAt
 have e0:=(au l).symm
 have e1:=au l'
 rw[cT]
 simp_all
theorem eW(z:α)(k:Nat):flat (List.replicate k z)=(List.replicate k (aO.cells z)).flatten:=by unfold flat;simp_all
end
def FN.ac9{P:Program}{f:FuncId}{args:List AV}{s:ae}{Q:List AV->ae->Prop}{sz n:Nat}{cs:List AV}(hpl:cs.all Jk=true)(hnu:∀x,cs[0]? ≠some (.int .u8 x))(hsz:0<sz)
 (h:FE P f args uW [.sl true sz n cs] uW)(hq:Q [.us sz n cs] s):FN P f args s Q:=by
 intro G w vs h1 h2 h3 h4
 let G1:Gh:=⟨G.R,fun i=>if G.O i=.none then .none else .frame⟩
 have hO1:∀i,G1.O i=.frame\/G1.O i=.none:=fun i=>A_
 have hg1:cq G1 w:=⟨fun i hi=>by simp[G1,h1.jI i hi],fun i hi=>h1.jY i hi⟩
 refine(h G1 w vs hg1 (fun i=>(hO1 i).elim (fun e=>.inr (.inl e)) .inl) (fun i o hi=>by cases hi) h4).mono fun e w'⟨v,rs,s',G',he,⟨hrs,_⟩,hg',_,hr,hp⟩=>?_
 subst hrs
 have hr':VR w' G'.R (.sl true sz n cs) v/\dI G' w' (.res 0) (.sl true sz n cs) v:=hr
 have same:∀i,i<w.heap.size->w'.heap[i]? =w.heap[i]? :=fun i hi=>hp.frame i hi (hO1 i)
 have dG:∀i j,i<w.heap.size->w'.cell? ⟨i,j,none⟩=w.cell? ⟨i,j,none⟩:=fun i j hi=>World.cell?_of_block (same i hi)
 have hlt:∀i,G.O i≠.none->i<w.heap.size:=fun i hi=>h1.lt hi
 have jh:∀i,i<w.heap.size->G'.O i≠.res 0/\G'.R i=G.R i:=fun i hi=>by
  rcases hO1 i with e|e
  ·obtain⟨q1,q2⟩:=hp.jF i hi e;grind
  ·obtain⟨q1,q2⟩:=hp.pZ i hi e;grind
 have fin:∀(b:Nat),w.heap.size<=b->b<w'.heap.size->∀G2:Gh,G2=⟨fun i=>if i=b then 0 else G'.R i,fun i=>if i<w.heap.size then G.O i else if i=b then .res 0 else .none⟩->
  cq G2 w'/\ba G2 w' s/\aI G w G2 w':=by
  intro b hb1 hb2 G2 hG2
  subst hG2
  have bK:aI G w ⟨fun i=>if i=b then 0 else G'.R i,fun i=>if i<w.heap.size then G.O i else if i=b then .res 0 else .none⟩ w':=by
   refine⟨hp.os,hp.tape,hp.output,hp.drawn,hp.size,fun i hi=>?_,fun i j hi _=>dG i j hi,fun i hi _=>same i hi,fun i hi ho=>?_,fun i hi ho=>?_⟩
   ·grind
   ·grind
   ·grind
  refine⟨⟨fun i hi=>?_,fun i hi=>?_⟩,?_,bK⟩
  ·grind
  ·show(if i=b then 0 else G'.R i)=0
   rw[if_neg AT,hg'.jY i hi]
  ·have hk:∀i,G.O i≠.none->(if i<w.heap.size then G.O i else if i=b then dh.res 0 else dh.none)=G.O i/\(if i=b then 0 else G'.R i)=G.R i/\w'.heap[i]? =w.heap[i]? :=fun i hi=>by
    grind
   exact h3.mono h1 bK (fun i hi=>by
    grind) (fun i c j _ hc=>by
    grind)
 have none_:UsR ⟨G.R,G.O⟩ w' (.res 0) sz n cs v->∃v rs s' G'',e=.returned v/\Q rs s'/\cq G'' w'/\ba G'' w' s'/\nt G'' w' rs v/\aI G w G'' w':=by
  intro hu
  have bK:aI G w G w':=⟨hp.os,hp.tape,hp.output,hp.drawn,hp.size,fun _ _=>Nat.le_refl _,fun i j hi _=>dG i j hi,fun i hi _=>same i hi,fun i _ ho=>⟨ho,rfl⟩,fun i _ ho=>⟨ho,rfl⟩⟩
  refine⟨v,_,s,G,he,hq,⟨fun i hi=>h1.jI i (Nat.le_trans hp.size hi),fun i hi=>h1.jY i (Nat.le_trans hp.size hi)⟩,h3.mono h1 bK (fun i hi=>⟨hi,rfl,same i (hlt i (by rw[hi];simp))⟩) (fun i c j _ hc=>⟨hc,rfl,same c (hlt c p_)⟩),hu,bK⟩
 rcases VR.gR hr'.1 with⟨e0,rfl,rfl⟩|⟨b,off,cap,e1,hl,hR,fh,hat⟩
 ·exact none_ (.inl ⟨rfl,rfl,.inl e0.own⟩)
 ·by_cases hc0:cap=0
  ·subst hc0
   have hn:n=0:=AT
   subst hn
   have hcs:cs=[]:=List.eq_nil_of_length_eq_zero (by rw[hl];simp)
   subst hcs
   exact none_ (.inl ⟨rfl,rfl,.inr ⟨b,off,e1⟩⟩)
  ·obtain⟨b',Rm,c,t,fz,q1,q2,q3,q4,q5,_,_,rfl,hz,IK⟩:=hr'.2 _ _ _ e1 AT
   injection q1 with q1;injection q1 with q1 q1' _
   subst q1;subst q1'
   have hz:fz=(0,0):=by
    rcases hz with hz|⟨hn0,x,hz⟩
    ·exact hz
    ·obtain⟨u,u1,u2,_⟩:=hat
     have hlt:0<cs.length:=by rw[hl];exact Nat.mul_pos hn0 hsz
     have k1:=u1 0 _ (List.getElem?_eq_getElem hlt)
     rw[Nat.zero_add,cell_of_row w' q4,hz]at k1
     injection k1 with k1
     have k2:=u2 0 _ (List.getElem?_eq_getElem hlt)
     rw[<-k1]at k2
     have hp0:=List.all_eq_true.1 hpl _ (List.getElem_mem hlt)
     cases hc:cs[0]with
     |int k y=>
      rw[hc]at k2
      have:=VR.b9 k2
      grind
     |bool y=>rw[hc]at k2;have:=VR.gF k2;cases this
     |str y=>rw[hc]at k2;have:=VR.gm k2;cases this
     |_=>rw[hc]at hp0;cases hp0
   subst hz
   have hb1:w.heap.size<=b:=by
    rcases Nat.lt_or_ge b w.heap.size with hb|hb
    ·grind
    ·exact hb
   have hb2:b<w'.heap.size:=(Array.getElem?_eq_some_iff.1 q4).1
   obtain⟨f1,f2,f3⟩:=fin b hb1 hb2 _ rfl
   refine⟨v,_,s,_,he,hq,f1,f2,?_,f3⟩
   obtain⟨u,u1,u2,u3⟩:=hat
   have hle:cs.length<=cap*sz:=by rw[hl];exact Nat.mul_le_mul_right _ fh
   refine .inr ⟨b,cap,c,t,List.replicate (cap*sz -cs.length) .one,AT,fh,e1,?_,?_,q4,A_,hl,A_,fun j x y hx hy=>?_,fun x hx=>?_,?_⟩
   ·grind
   ·grind
   ·rcases Nat.lt_or_ge j cs.length with hj|hj
    ·rw[List.getElem?_append_left hj]at hx
     have k1:=u1 j x hx
     rw[Nat.zero_add,cell_of_row w' q4,hy]at k1
     grind [Ak,List.all_eq_true,List.mem_of_getElem?]
    ·rw[List.getElem?_append_right hj,List.getElem?_replicate]at hx
     split at hx
     ·injection hx with hx;rw[<-hx];exact .one _ (IK j y A_ hy)
     ·cases hx
   ·rcases List.mem_append.1 hx with hx|hx
    ·exact u3 x hx
    ·rw[(List.mem_replicate.1 hx).2];rfl
   ·unfold views
    rw[List.map_append,List.map_replicate]
    congr 1
    have:∀l:List AV,l.all Jk=true->l.map view=l:=fun l h=>by
     induction l with
     |nil=>rfl
     |cons a l ih=>
      rw[List.all_cons,Bool.and_eq_true]at h
      rw[List.map_cons,ih h.2]
      cases a<;>first|rfl|(cases h.1;done)
    grind
def lN{P:Program}{S O:Type}{body:S->Option (S⊕O)}{s0:S}{kf:O->Prop}{live:List (Nat×Bool)}{b:IC}{Q:Exit->St->Prop}{E:St}(R:S->St->Prop)
 (h0:R s0 (E.fk live))
 (hb:∀(J:St->Prop)(s:S)(τ:St),R s τ->ok (body s) (jg (fun t=>∀U',R t U'->J U') kf)->fY P b (pX live J Q) τ):ok (iter body s0) kf->fY P (.loop live b) Q E:=by
 intro h
 have yn:∀τ,(∃m s,R s τ/\ok (cD body m s) kf)->∃m,(∃s,R s τ/\ok (cD body m s) kf)/\∀k,k<m->¬∃s,R s τ/\ok (cD body k s) kf:=by
  rintro τ ⟨m,s,h⟩
  induction m using Nat.strongRecOn generalizing s with
  |_ m ih=>grind
 have hμ:∃μ:St->Nat,∀τ,(∃m s,R s τ/\ok (cD body m s) kf)->(∃s,R s τ/\ok (cD body (μ τ) s) kf)/\∀k,k<μ τ->¬∃s,R s τ/\ok (cD body k s) kf:=⟨fun τ=>Classical.epsilon fun m=>(∃s,R s τ/\ok (cD body m s) kf)/\∀k,k<m->¬∃s,R s τ/\ok (cD body k s) kf,fun τ hτ=>Classical.epsilon_spec (yn τ hτ)⟩
 obtain⟨μ,hμ⟩:=hμ
 refine⟨fun τ=>∃m s,R s τ/\ok (cD body m s) kf,μ,⟨_,s0,h0,h⟩,?_⟩
 intro τ hτ
 obtain⟨⟨s,e,hs⟩,_⟩:=hμ τ hτ
 generalize hm:μ τ=m at hs
 cases m with
 |zero=>grind [sa]
 |succ m=>
  rw[xf]
  obtain⟨x,hx,k⟩:=rZ hs
  refine hb _ s τ e ⟨x,hx,?_⟩
  cases x with
  |inr o=>exact k
  |inl t=>
   intro U' ht
   refine⟨⟨m,t,ht,k⟩,?_⟩
   have h2:=(hμ U' ⟨m,t,ht,k⟩).2
   rcases Nat.lt_or_ge m (μ U')with hlt|hge
   ·exact(h2 m hlt ⟨t,ht,k⟩).elim
   ·omega
def wT{α:Type}[aO α](l:List α)(sp:List AV){i r:Nat}(hi:i<l.length)(hr:r<aO.w α):(flat l++sp)[i*aO.w α+r]? =(aO.cells l[i])[r]? :=by
 have hlt:i*aO.w α+r<(flat l).length:=by
  rw[au]
  calc i*aO.w α+r<(i+1)*aO.w α:=by grind
   _<=l.length*aO.w α:=Nat.mul_le_mul_right _ hi
 rw[List.getElem?_append_left hlt]
 have h:=lH l (aO.w α) i 1 rfl
 rw[Nat.one_mul,List.drop_eq_getElem_cons hi]at h
 have h2:(AB.sub (flat l) (i*aO.w α) (aO.w α))[r]? =(aO.cells l[i])[r]? :=by
  rw[h]
  show(flat [l[i]])[r]? =_
  unfold flat
  simp
 rw[Cm,if_pos hr]at h2
 exact h2
abbrev c5:=Option (Nat×Nat×List AV)
section
variable{α:Type}[aO α]
def Mi:c5->Nat
 |none=>0
 |some (b,_,_)=>b
def JA:c5->Nat
 |none=>0
 |some (_,cap,_)=>cap
abbrev jj(r:c5)(n:Nat):AV:=.arr (Mi r) 0 n (JA r)
def jc(s:ae)(r:c5)(l:List α):ae:=match r with
 |none=>s
 |some (b,_,sp)=>s.set b (.cells (flat l++sp))
def fZ(s:ae)(r:c5)(l:List α):Prop:=match r with
 |none=>l=[]
 |some (b,cap,sp)=>s b=none/\0<cap/\l.length<=cap/\(flat l++sp).length=cap*aO.w α/\views sp=sp
def VM{s:ae}{r:c5}{l:List α}(h:fZ s r l):Sub s (jc s r l):=by
 cases r with
 |none=>exact Sub.refl s
 |some x=>exact(Sub.refl s).set h.1
def jO{s:ae}{r:c5}{l:List α}(h:fZ s r l){b:Nat}{o:SO}(hb:s b=some o):jc s r l b=some o:=VM h b o hb
def xL{E:St}{d:Option Nat}{K:St->Prop}{sz by':Nat}{s:ae}{r:c5}{l:List α}{z v:α}(hσ:E.s=jc s r l)(h:fZ s r l)(hz:sz=aO.w α)(hr:(l.length+1)*by'<=room)
 (hK:∀s' r',Sub s s'->fZ s' r' (l++[v])->K ({E with s:=jc s' r' (l++[v])}.put d (jj r' (l.length+1)))):
 eP sz by' (aO.cells z) E d K (jj r l.length) (some (1,aO.cells v)):=by
 subst hz
 have hcz:(aO.cells z).length=aO.w α:=aO.len z
 have hcv:flat [v]=aO.cells v:=υ
 have hvz:views (aO.cells z)=aO.cells z:=aO.vw z
 have fresh:∀(s':ae)(b' cQ:Nat),s' b'=none->l.length+1<=cQ->fZ s' (some (b',cQ,flat (List.replicate (cQ -(l.length+1)) z))) (l++[v]):=fun s' b' cQ hb hc=>by
  refine⟨hb,AT,A_,?_,aF _⟩
  rw[List.length_append,au,au,List.length_replicate,List.length_append,<-Nat.add_mul]
  grind
 cases r with
 |none=>
  obtain rfl:l=[]:=h
  show eP (aO.w α) by' (aO.cells z) E d K (.arr 0 0 0 0) _
  refine eo hcz (olds:=[]) rfl BY hr fun b' cQ hb' hc=>?_
  rw[List.nil_append,<-eW,<-hcv]
  rw[hσ]at hb'⊢
  have:=hK s (some (b',cQ,flat (List.replicate (cQ -(0+1)) z))) (Sub.refl s) (fresh s b' cQ hb' hc)
  exact this
 |some x=>
  obtain⟨b,cap,sp⟩:=x
  obtain⟨h1,h2,h3,h4,h5⟩:=h
  have hs:E.s b=some (.cells (flat l++sp)):=χ
  show eP (aO.w α) by' (aO.cells z) E d K (.arr b 0 l.length cap) _
  by_cases hc:l.length+1<=cap
  ·refine lf hcz hs A_ hc ?_
   have hsp:[v].length*aO.w α<=sp.length:=by
    rw[List.length_append,au]at h4
    have:(l.length+1)*aO.w α<=cap*aO.w α:=Nat.mul_le_mul_right _ hc
    rw[Nat.add_mul,Nat.one_mul]at this
    simp;omega
   have st:=y6 l [v] sp (aO.w α) rfl hsp
   rw[Nat.zero_add,<-hcv,st]
   have e:E.s.set b (.cells (flat (l++[v])++sp.drop ([v].length*aO.w α)))=jc s (some (b,cap,sp.drop ([v].length*aO.w α))) (l++[v]):=by
    rw[hσ]
    show(s.set b _).set b _=s.set b _
    exact set_set ..
   rw[e]
   refine hK s _ (Sub.refl s) ⟨h1,h2,A_,?_,?_⟩
   ·grind [List.length_append,au,List.length_drop,Nat.add_mul]
   grind [views,List.map_drop]
  ·refine eo hcz (oI hs (by
    grind)) AT hr fun b' cQ hb' hc'=>?_
   have ho:views (AB.sub (flat l++sp) 0 (l.length*aO.w α))=flat l:=by
    have:=gJ l sp (aO.w α) 0 l.length rfl AT
    rw[Nat.zero_mul]at this
    rw[this,List.drop_zero,List.take_length,aF]
   rw[ho,<-eW,<-hcv,<-cT]
   rw[hσ]at hb'⊢
   have hb0:(s.set b (.cells (flat l++sp))) b'=none:=hb'
   exact hK (s.set b (.cells (flat l++sp))) (some (b',cQ,flat (List.replicate (cQ -(l.length+1)) z))) ((Sub.refl s).set h1) (fresh _ b' cQ hb0 hc')
def Ot{s:ae}{r:c5}{l:List α}(h:fZ s r l)(hl:0<l.length):∃b cap sp,r=some (b,cap,sp):=by
 cases r with
 |none=>rw[h]at hl;simp at hl
 |some x=>grind
def Y0{s:ae}{b cap:Nat}{sp:List AV}{l l':List α}(h:fZ s (some (b,cap,sp)) l)(hl:l'.length=l.length):fZ s (some (b,cap,sp)) l':=by
 obtain⟨h1,h2,h3,h4,h5⟩:=h
 exact⟨h1,h2,AT,by grind [List.length_append,au],h5⟩
def IG{E:St}{d:Option Nat}{K:St->Prop}{sz:Nat}{s:ae}{r:c5}{l:List α}(hσ:E.s=jc s r l)(h:fZ s r l)(hz:sz=aO.w α)
 (hK:K ({E with s:=s}.put d (.sl true sz l.length (flat l)))):yg sz true E d K (jj r l.length):=by
 subst hz
 cases r with
 |none=>
  obtain rfl:l=[]:=h
  refine .inl ⟨rfl,rfl,rfl,?_⟩
  have e:{E with s:=s}=E:=by
   have:E.s=s:=hσ
   rw[<-this]
  rw[e]at hK
  exact hK
 |some x=>
  obtain⟨b,cap,sp⟩:=x
  obtain⟨h1,h2,h3,h4,h5⟩:=h
  have hs:E.s b=some (.cells (flat l++sp)):=χ
  show yg (aO.w α) true E d K (.arr b 0 l.length cap)
  refine .inr ⟨h2,h3,fun _=>⟨rfl,?_,?_⟩,?_⟩
  ·rw[hs];show 0+cap*aO.w α<=_;grind
  ·rw[hs];show _=0+cap*aO.w α;grind
  ·have ho:views (AB.sub (flat l++sp) 0 (l.length*aO.w α))=flat l:=by
    have:=gJ l sp (aO.w α) 0 l.length rfl BY
    rw[Nat.zero_mul]at this
    rw[this,List.drop_zero,List.take_length,aF]
   rw[hs]
   show yg.frzK _ _ E d K b l.length (bif decide (0+l.length*aO.w α<=(flat l++sp).length)then some (l.length,views (AB.sub (flat l++sp) 0 (l.length*aO.w α)))else none)
   rw[decide_eq_true (by rw[Nat.zero_add,h4];exact Nat.mul_le_mul_right _ h3),ho]
   have e:E.s.del b=s:=by
    rw[hσ]
    exact iX h1
   show K ({E with s:=E.s.del b}.put d (.sl true _ l.length (flat l)))
   grind
end
end Go.AB
end
