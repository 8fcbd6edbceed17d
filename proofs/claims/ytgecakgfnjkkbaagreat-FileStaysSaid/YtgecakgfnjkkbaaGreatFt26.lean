/- A part. -/
import Derived.Test.YtgecakgfnjkkbaaGreatFt25
import Derived.Test.YtgecakgfnjkkbaaGreatFt22
set_option linter.unusedSimpArgs false
set_option linter.unusedVariables false
section
set_option maxRecDepth 4000
namespace Go.AB
open Go
def Nj(x:aj):Bool:=!((decide (x.aR<0))||(decide (x.To<=x.aR)))
theorem G9{x:aj}:Nj x=true↔0<=x.aR/\x.aR<x.To:=by unfold Nj;simp
def Uz(p:Int)(l:List aj):Prop:=∃x∈l,Nj x=true/\qI p x
theorem VK(x:aj):(!xK x)=Nj x:=by unfold xK Nj;rfl
theorem Gy{l:List aj}{x:aj}:x∈JL (full l)↔x∈l/\Nj x=true:=by
 unfold JL full
 rw[(List.mergeSort_perm _ leB).mem_iff,List.mem_filter,VK]
def SpI(l:List aj):Prop:=∀x∈l,x.To<=9223372036854775807
theorem aeE{l:List aj}(h:SpI l):∀x∈JL (full l),acd x:=fun x hx=>by
 obtain⟨h1,h2⟩:=Gy.1 hx
 obtain⟨h3,h4⟩:=G9.1 h2
 exact⟨h3,h4,h x h1⟩
theorem JJ{l:List aj}{p:Int}:dc p (JL (full l))↔Uz p l:=by
 constructor
 ·rintro⟨x,hx,hp⟩;exact⟨x,(Gy.1 hx).1,(Gy.1 hx).2,hp⟩
 ·rintro⟨x,h1,h2,hp⟩;exact⟨x,Gy.2 ⟨h1,h2⟩,hp⟩
theorem K1{l:List aj}(h:SpI l):Form (zf 0 (JL (full l)))/\SpI (zf 0 (JL (full l)))/\∀p,dc p (zf 0 (JL (full l)))↔Uz p l:=by
 have h0:Form ([]:List aj):=⟨fun _ h=>absurd h (List.not_mem_nil),List.Pairwise.nil⟩
 have:=sQ (JL (full l)) [] h0 (fun _ h=>absurd h (List.not_mem_nil)) (aeE h) (Nk _) (fun O y e=>by simp at e)
 refine⟨this.1,this.2.1,fun p=>?_⟩
 refine(this.2.2 p).trans ⟨fun h=>?_,fun h=>.inr (JJ.2 h)⟩
 rcases h with h|h
 ·obtain⟨x,hx,_⟩:=h;cases hx
 ·exact JJ.1 h
def MU(l:List aj):List aj:=zf 0 (JL (full l))
theorem LK{l:List aj}(hr:l.length*16<=room):pS l 0=some (MU l):=by
 unfold pS
 rw[bK hr];rfl
theorem Oo(l:List aj):(MU l).length<=l.length:=by
 have h1:=yh 0 (JL (full l)) []
 have h2:(JL (full l)).length=(full l).length:=List.length_mergeSort _
 have h3:(full l).length<=l.length:=List.length_filter_le _ _
 have h4:(MU l).length<=([]:List aj).length+(JL (full l)).length:=h1
 have h5:([]:List aj).length=0:=rfl
 omega
theorem D5(x:aj):iB x=some (!Nj x):=by unfold iB Nj;simp
theorem QZ{l:List aj}(h:Form l){p:Int}:Uz p l↔dc p l:=⟨fun⟨x,hx,_,hp⟩=>⟨x,hx,hp⟩,fun⟨x,hx,hp⟩=>⟨x,hx,G9.2 (h.1 x hx),hp⟩⟩
theorem KS{l m:List aj}{p:Int}:Uz p (l++m)↔Uz p l\/Uz p m:=by
 unfold Uz
 constructor
 ·rintro⟨x,hx,h⟩
  rcases List.mem_append.1 hx with hx|hx
  ·exact .inl ⟨x,hx,h⟩
  ·exact .inr ⟨x,hx,h⟩
 ·rintro(⟨x,hx,h⟩|⟨x,hx,h⟩)
  ·exact⟨x,List.mem_append_left _ hx,h⟩
  ·exact⟨x,List.mem_append_right _ hx,h⟩
theorem UA{x:aj}{p:Int}:Uz p [x]↔Nj x=true/\qI p x:=by unfold Uz;simp
theorem xx{n:Nat}(h:n<=100000000):n*16<=room:=by unfold room;omega
theorem VF{l:List aj}{x:aj}(h:Form l)(hi:SpI l)(hx:x.To<=9223372036854775807)(hr:l.length+1<=100000000):
 ∃l',vY l x=some l'/\Form l'/\SpI l'/\l'.length<=l.length+1/\∀p,dc p l'↔dc p l\/(Nj x=true/\qI p x):=by
 have e1:(l++[x]).length=l.length+1:=by simp
 have hsp:SpI (l++[x]):=fun y hy=>by
  rcases List.mem_append.1 hy with hy|hy
  ·exact hi y hy
  ·obtain rfl:=List.mem_singleton.1 hy;exact hx
 obtain⟨f1,f2,f3⟩:=K1 hsp
 refine⟨MU (l++[x]),aD (xx hr) (LK (by rw[e1];exact xx hr)),f1,f2,by have:=Oo (l++[x]);omega,fun p=>?_⟩
 refine(f3 p).trans ?_
 rw[KS,UA,QZ h]
theorem JO{l:List aj}{k:Nat}(hk:k<l.length){p:Int}:dc p (l.take (k+1))↔dc p (l.take k)\/qI p l[k]:=by rw[List.take_succ_eq_append_getElem hk,fm,mZ]
theorem Ud{l:List aj}(h:Form l){k:Nat}(hk:k<l.length){y:aj}(hy:y∈l.take k):y.To<l[k].aR:=by
 obtain⟨j,hj,rfl⟩:=List.getElem_of_mem hy
 rw[List.length_take]at hj
 rw[List.getElem_take]
 exact List.pairwise_iff_getElem.1 h.2 j k (by omega) hk (by omega)
structure yQ(l:List aj)(x:aj)(k:Nat)(out:List aj)(at_:Int):Prop where
 form:Form out
 TC:∀a∈out,a.To<=x.To
 len:out.length<=k
 lo:x.aR<=at_
 hi:at_<=x.To
 rm:(∀a∈out,a.To<at_)\/at_=x.To
 pre:∀y∈l.take k,min y.To x.To<=at_
 aiC:at_=x.aR\/∃y∈l.take k,at_<=y.To
 mem:∀p,dc p out↔x.aR<=p/\p<at_/\¬dc p (l.take k)
theorem BB{at_ t:Int}{out:List aj}(h:out.length+1<=100000000):s9 at_ out t=some (if at_<t then out++[⟨at_,t⟩]else out):=by
 unfold s9
 by_cases hc:at_<t
 ·rw[if_pos (decide_eq_true hc),if_pos hc,bK (xx h)]
 ·rw[if_neg (by simpa using hc),if_neg hc]
theorem yQ.push{l:List aj}{x:aj}{k:Nat}{out:List aj}{at_ t:Int}(h:yQ l x k out at_)(h0:0<=x.aR)(ht:t<=x.To)(hc:at_<t):Form (out++[⟨at_,t⟩])/\∀a∈out,a.To<at_:=by
 have hg:∀a∈out,a.To<at_:=by
  rcases h.rm with hg|hg
  ·exact hg
  ·omega
 have:=h.lo
 exact⟨h.form.snoc (by simp only;omega) (fun a ha=>hg a ha),hg⟩
theorem yQ.step{l:List aj}{x:aj}{k:Nat}{out:List aj}{at_:Int}(hl:Form l)(h0:0<=x.aR)(hk:k<l.length)(h:yQ l x k out at_):
 yQ l x (k+1) (if at_<min l[k].aR x.To then out++[⟨at_,min l[k].aR x.To⟩]else out) (max at_ (min l[k].To x.To)):=by
 have hy:=hl.1 l[k] (List.getElem_mem hk)
 have hlt:=fun y(h:y∈l.take k)=>Ud hl hk h
 have hin:∀y,y∈l.take (k+1)↔y∈l.take k\/y=l[k]:=fun y=>by rw[List.take_succ_eq_append_getElem hk,List.mem_append,List.mem_singleton]
 have htm:=fun p=>JO hk (p:=p)
 generalize l[k]=y at*
 obtain⟨hf,hto,hlen,hlo,hhi,Us,QQ,Ix,Dk⟩:=id h
 have W0:∀z∈l.take (k+1),min z.To x.To<=max at_ (min y.To x.To):=fun z hz=>by
  rcases(hin z).1 hz with hz|rfl
  ·have:=QQ z hz;omega
  ·omega
 have QC:max at_ (min y.To x.To)=x.aR\/∃z∈l.take (k+1),max at_ (min y.To x.To)<=z.To:=by
  by_cases hc:at_<=y.To
  ·exact .inr ⟨y,(hin y).2 (.inr rfl),by omega⟩
  ·have e:max at_ (min y.To x.To)=at_:=by omega
   rw[e]
   rcases Ix with Ix|⟨z,hz,hz2⟩
   ·exact .inl Ix
   ·exact .inr ⟨z,(hin z).2 (.inl hz),hz2⟩
 by_cases hc:at_<min y.aR x.To
 ·rw[if_pos hc]
  obtain⟨hp1,hp2⟩:=h.push h0 (Int.min_le_right _ _) hc
  refine⟨hp1,fun a ha=>?_,by simp;omega,by omega,by omega,?_,W0,QC,fun p=>?_⟩
  ·rcases List.mem_append.1 ha with ha|ha
   ·exact hto a ha
   ·obtain rfl:=List.mem_singleton.1 ha;simp only;omega
  ·by_cases hy2:y.aR<x.To
   ·refine .inl fun a ha=>?_
    rcases List.mem_append.1 ha with ha|ha
    ·have:=hp2 a ha;omega
    ·obtain rfl:=List.mem_singleton.1 ha;simp only;omega
   ·exact .inr (by omega)
  ·rw[fm,mZ,Dk,htm]
   show _\/(at_<=p/\p<min y.aR x.To)↔_
   constructor
   ·rintro(⟨a1,a2,a3⟩|⟨a1,a2⟩)
    ·exact⟨a1,by omega,fun h=>h.elim a3 fun hin=>by have:=hin.1;omega⟩
    ·refine⟨by omega,by omega,fun h=>h.elim (fun⟨z,hz,hz2⟩=>?_) fun hin=>by have:=hin.1;omega⟩
     have:=QQ z hz
     have:=hz2.2
     omega
   ·rintro⟨a1,a2,a3⟩
    by_cases hpa:p<at_
    ·exact .inl ⟨a1,hpa,fun h=>a3 (.inl h)⟩
    ·refine .inr ⟨by omega,?_⟩
     by_cases hq:p<min y.aR x.To
     ·exact hq
     ·exact absurd (Or.inr ⟨by omega,by omega⟩:dc p (l.take k)\/qI p y) a3
 ·rw[if_neg hc]
  refine⟨hf,hto,by omega,by omega,by omega,?_,W0,QC,fun p=>?_⟩
  ·rcases Us with Us|Us
   ·exact .inl fun a ha=>by have:=Us a ha;omega
   ·exact .inr (by omega)
  ·rw[Dk,htm]
   constructor
   ·rintro⟨a1,a2,a3⟩
    refine⟨a1,by omega,fun h=>h.elim a3 fun hin=>?_⟩
    have:=hin.1
    rcases Ix with Ix|⟨z,hz,hz2⟩
    ·omega
    ·have:=hlt z hz;omega
   ·rintro⟨a1,a2,a3⟩
    by_cases hpa:p<at_
    ·exact⟨a1,hpa,fun h=>a3 (.inl h)⟩
    ·exact absurd (Or.inr ⟨by omega,by omega⟩:dc p (l.take k)\/qI p y) a3
theorem EE{l:List aj}{x:aj}(hl:Form l)(h0:0<=x.aR)(hr:l.length+1<=100000000):∀(m k:Nat)(out:List aj)(at_:Int),k+m=l.length->yQ l x k out at_->
 ∃Va at',CF (I8 x l) (m+1) (out,at_,(k:Int)) (Va,at')/\yQ l x l.length Va at'
 |0,k,out,at_,hk,h=>⟨out,at_,.stop (by simp only[I8];exact al (by simp;omega) rfl),by rw[show l.length=k by omega];exact h⟩
 |m+1,k,out,at_,hk,h=>by
  have hkl:k<l.length:=by omega
  have e:ix l (k:Int)=l[k]:=gv hkl
  have hlen:=h.len
  obtain⟨Va,at',h1,h2⟩:=EE hl h0 hr m (k+1) _ _ (by omega) (h.step hl h0 hkl)
  refine⟨Va,at',.step ?_ h1,h2⟩
  simp only[I8]
  refine aM (decide_eq_true (by omega)) (aD ⟨by omega,by omega⟩ (ag (BB (by omega)) ?_))
  rw[ar (by omega) (by omega),e]
  rfl
theorem JE{l:List aj}{x:aj}(hl:Form l)(hr:l.length+2<=100000000):
 ∃ms,lN l x=some ms/\Form ms/\ms.length<=l.length+1/\(∀a∈ms,a.To<=x.To)/\∀p,dc p ms↔Nj x=true/\qI p x/\¬dc p l:=by
 unfold lN
 cases hv:Nj x with
 |false=>refine⟨[],ag (D5 x) (by rw[hv];rfl),⟨fun _ h=>absurd h List.not_mem_nil,List.Pairwise.nil⟩,by simp,fun _ h=>absurd h List.not_mem_nil,fun p=>⟨fun⟨_,h,_⟩=>absurd h List.not_mem_nil,fun h=>Bool.noConfusion h.1⟩⟩
 |true=>
  have hx:=G9.1 hv
  have i0:yQ l x 0 [] x.aR:=⟨⟨fun _ h=>absurd h List.not_mem_nil,List.Pairwise.nil⟩,fun _ h=>absurd h List.not_mem_nil,by simp,by omega,by omega,.inl fun _ h=>absurd h List.not_mem_nil,fun y hy=>by simp at hy,.inl rfl,fun p=>⟨fun⟨_,h,_⟩=>absurd h List.not_mem_nil,fun h=>by omega⟩⟩
  obtain⟨out,at_,h1,h2⟩:=EE hl hx.1 (by omega) l.length 0 [] x.aR (by omega) i0
  have hlen:=h2.len
  have QQ:∀{p:Int},p<x.To->¬p<at_->¬dc p l:=fun hp1 hp2⟨z,hz,hz2⟩=>by
   have:=h2.pre z (by rw[List.take_length];exact hz)
   have:=hz2.2
   omega
  have Dk:∀p,dc p out↔x.aR<=p/\p<at_/\¬dc p l:=fun p=>by have:=h2.mem p;rwa[List.take_length]at this
  refine⟨if at_<x.To then out++[⟨at_,x.To⟩]else out,ag (D5 x) (by
   rw[hv]
   exact ag (aD (xx (by omega)) rfl) (ag (h1.iter (by omega)) (BB (by omega)))),?_,?_,?_,fun p=>?_⟩
  ·split
   ·exact(h2.push hx.1 (Int.le_refl _) (by assumption)).1
   ·exact h2.form
  ·split
   ·simp;omega
   ·omega
  ·split
   ·intro a ha
    rcases List.mem_append.1 ha with ha|ha
    ·exact h2.TC a ha
    ·obtain rfl:=List.mem_singleton.1 ha;exact Int.le_refl _
   ·exact h2.TC
  ·have hhi:=h2.hi
   have hlo:=h2.lo
   split
   ·rename_i hc
    rw[fm,mZ,Dk]
    show _\/(at_<=p/\p<x.To)↔_
    constructor
    ·rintro(⟨a1,a2,a3⟩|⟨a1,a2⟩)
     ·exact⟨rfl,⟨a1,by omega⟩,a3⟩
     ·exact⟨rfl,⟨by omega,a2⟩,QQ a2 (by omega)⟩
    ·rintro⟨_,⟨a1,a2⟩,a3⟩
     by_cases hp:p<at_
     ·exact .inl ⟨a1,hp,a3⟩
     ·exact .inr ⟨by omega,a2⟩
   ·rename_i hc
    rw[Dk]
    exact⟨fun⟨a1,a2,a3⟩=>⟨rfl,⟨a1,by omega⟩,a3⟩,fun⟨_,⟨a1,a2⟩,a3⟩=>⟨a1,by omega,a3⟩⟩
theorem E6{l:List aj}{a:Int}:∀(m k:Nat),k+m=l.length->l.length<=100000000->Form l->(∀y∈l.take k,¬qI a y)->
 ∃r,CF (E5 l a) (m+1) (k:Int) r/\((r=a/\¬dc a l)\/∃y∈l,qI a y/\r=y.To)
 |0,k,hk,_,_,h=>⟨a,.stop (by simp only[E5];exact al (by simp;omega) rfl),.inl ⟨rfl,fun⟨y,hy,hp⟩=>h y (by rw[List.take_of_length_le (by omega)];exact hy) hp⟩⟩
 |m+1,k,hk,hb,hf,h=>by
  have hkl:k<l.length:=by omega
  have e:ix l (k:Int)=l[k]:=gv hkl
  by_cases hc:qI a l[k]
  ·refine⟨l[k].To,.stop ?_,.inr ⟨l[k],List.getElem_mem hkl,hc,rfl⟩⟩
   simp only[E5]
   refine aM (decide_eq_true (by omega)) (aD ⟨by omega,by omega⟩ ?_)
   rw[e]
   exact aM (by simp only[Bool.and_eq_true,decide_eq_true_eq];exact hc) rfl
  ·obtain⟨r,h1,h2⟩:=E6 m (k+1) (by omega) hb hf (fun y hy=>by
    rw[List.take_succ_eq_append_getElem hkl]at hy
    rcases List.mem_append.1 hy with hy|hy
    ·exact h y hy
    ·obtain rfl:=List.mem_singleton.1 hy;exact hc)
   refine⟨r,.step ?_ h1,h2⟩
   simp only[E5]
   refine aM (decide_eq_true (by omega)) (aD ⟨by omega,by omega⟩ ?_)
   rw[e,if_neg (by simp only[Bool.and_eq_true,decide_eq_true_eq];exact hc),ar (by omega) (by omega)]
   rfl
theorem Oe{l:List aj}(h:Form l){x y:aj}(hx:x∈l)(hy:y∈l){p:Int}(hp:qI p x)(hq:y.aR<=p/\p<=y.To):x=y:=by
 obtain⟨i,hi,rfl⟩:=List.getElem_of_mem hx
 obtain⟨j,hj,rfl⟩:=List.getElem_of_mem hy
 by_cases hij:i=j
 ·subst hij;rfl
 ·have:=hp.1
  have:=hp.2
  rcases Nat.lt_or_gt_of_ne hij with hlt|hlt
  ·have:=List.pairwise_iff_getElem.1 h.2 i j hi hj hlt;omega
  ·have:=List.pairwise_iff_getElem.1 h.2 j i hj hi hlt;omega
theorem JF{l:List aj}{a:Int}(hl:Form l)(hr:l.length<=100000000):∃r,lO l a=some r/\a<=r/\(∀p,a<=p->p<r->dc p l)/\¬dc r l:=by
 obtain⟨r,h1,h2⟩:=E6 (l:=l) (a:=a) l.length 0 (by omega) hr hl (fun y hy=>by simp at hy)
 refine⟨r,ag (aD (xx hr) rfl) (h1.iter (by omega)),?_⟩
 rcases h2 with⟨rfl,h2⟩|⟨y,hy,hy2,rfl⟩
 ·exact⟨Int.le_refl _,fun p _ _=>by omega,h2⟩
 ·refine⟨by have:=hy2.2;omega,fun p hp1 hp2=>⟨y,hy,by have:=hy2.1;exact⟨by omega,hp2⟩⟩,fun⟨z,hz,hz2⟩=>?_⟩
  have:=Oe hl hz hy hz2 ⟨by have:=hl.1 y hy;omega,Int.le_refl _⟩
  subst this
  have:=hz2.2
  omega
def pr(s:bk)(v:ab):VL:=[⟨5,0,s,[]⟩,v]
def nm(c:VL):List UInt8:=(ix c 0).S.b
section
variable{b:List UInt8}{last:Bool}
end
section
variable{b:List UInt8}{last:Bool}
abbrev Mc:=pX lA
def F7(r:ab×Bool×Int×PS):Option (PS⊕(ab×Int×Int)):=
 bif r.2.2.1 !=0 then some (.inr (zV,0,r.2.2.1))else
 bif !r.2.1 then some (.inl r.2.2.2)else
 bt (r.2.2.2.st.length<=64)<|match r.2.2.2.st with
 |[]=>some (.inr (r.1,r.2.2.2.at_,0))
 |v::vs=>bt ((v.l_.length+1)*56<=room)<|some (.inl {r.2.2.2 with st:=⟨v.fE,v.l_++[r.1]⟩::vs})
theorem I5(hb:b.length<1048576){k:Nat}(hk:k<=b.length){st:List aX}(dZ:st.length<=64)(h:(gW b last k).2≠0):Mc ⟨b,(k:Int),last,st⟩=some (.inr (zV,0,(gW b last k).2)):=by
 unfold Mc pX
 rw[bK dZ,zg hb k hk,aJ]
 grind
theorem MZ(hb:b.length<1048576){k:Nat}(hk:k<=b.length){st:List aX}(dZ:st.length<=64)(h:(gW b last k).2=0):Mc ⟨b,(k:Int),last,st⟩=bn (uG lA ⟨b,(gW b last k).1.To,last,st⟩ (gW b last k).1) F7:=by
 unfold Mc pX
 rw[bK dZ,zg hb k hk,aJ]
 have:((gW b last k).2 !=0)=false:=by grind
 rw[this]
 rfl
theorem lS{v:ab}{c:Bool}{e:Int}{p:PS}(h:e≠0):F7 (v,c,e,p)=some (.inr (zV,0,e)):=by
 unfold F7
 grind
end
section
variable{b:List UInt8}{last:Bool}
def Wd:Nat->ab->Prop
 |0,_=>False
 |n+1,v=>v.L.length<1048577/\(∀x∈v.L,Wd n x)/\(v.Kind=8->1<=v.N/\v.N<=4096)
theorem Wd.leaf{n:Nat}{v:ab}(h:v.L=[])(k:v.Kind=8->1<=v.N/\v.N<=4096):Wd (n+1) v:=⟨by grind,fun x hx=>by grind,k⟩
theorem cO{α β:Type}{o:Option α}{f:α->Option β}{r:β}(h:bn o f=some r):∃a,o=some a/\f a=some r:=by
 cases o with
 |none=>cases h
 |some a=>simp_all
end
theorem I9{α:Type}{c:Prop}[Decidable c](h:¬c)(o:Option α):bt c o=none:=if_neg h
section
variable{b c:List UInt8}{last l:Bool}
def moE(e:Int):Int:=if e==6 then e else 0
theorem GA(e:Int):gy e=some (moE e):=by grind [gy,moE]
def whB(t:aF):Bool:=(t.Kind==1)&&(t.V.Kind==2)
def vH(b:List UInt8)(last:Bool)(j:Nat)(v:ab):ab×Int×Int:=
 if((gW b last j).2 !=0)||!whB (gW b last j).1 then(v,moE (gW b last j).2,(j:Int))else
 if(((gW b last (gW b last j).1.To.toNat).2 !=0)||((gW b last (gW b last j).1.To.toNat).1.Kind !=6))||!((gW b last (gW b last j).1.To.toNat).1.S.b==[82])then(v,moE (gW b last (gW b last j).1.To.toNat).2,(j:Int))else
 if((decide (v.N<1))||(decide (v.N>4096)))||((gW b last j).1.V.N !=0)then(v,26,(j:Int))else(⟨8,v.N,⟨[]⟩,[]⟩,0,(gW b last (gW b last j).1.To.toNat).1.To)
theorem Lz(hb:b.length<1048576){j:Nat}(hj:j<=b.length)(o:AV)(v:ab):cT ⟨b,(j:Int),last,o⟩ v=some ((vH b last j v).1,(vH b last j v).2.1,⟨b,(vH b last j v).2.2,last,o⟩):=by
 unfold cT vH
 refine ag (zg hb j hj) ?_
 have hx:=zl (last:=last) hj
 generalize gW b last j=q at hx
 obtain⟨t,e⟩:=q
 dsimp at hx⊢
 by_cases he:e=0
 ·subst he
  obtain⟨⟨i,ei,hi,_⟩,_,_⟩:=hx rfl
  refine ag (a:=whB t) rfl ?_
  cases hw:whB t with
  |false=>exact aM rfl (ag (GA _) rfl)
  |true=>
   rw[ei,Int.toNat_natCast]
   refine ag (zg hb i hi) ?_
   generalize gW b last i=r
   obtain⟨t2,e2⟩:=r
   split
   ·exact ag (GA _) rfl
   grind
 ·have h1:(e !=0)=true:=by grind
  rw[h1]
  exact ag rfl (aM rfl (ag (GA _) rfl))
def Lr(v:ab):Prop:=v.L=[]/\(v.Kind=8->1<=v.N/\v.N<=4096)
theorem Lf.r{v:ab}(h:Lf v):Lr v:=⟨h.1,fun k=>absurd k h.2⟩
theorem Sn{j:Nat}(hj:j<=b.length){v:ab}(hL:Lf v):Lr (vH b last j v).1/\∃q:Nat,(vH b last j v).2.2=(q:Int)/\j<=q/\q<=b.length:=by
 have hr:=hL.r
 have hx:=zl (last:=last) hj
 unfold vH
 generalize gW b last j=q at hx
 obtain⟨t,e⟩:=q
 split
 ·grind
 ·have he:e=0:=by grind
  obtain⟨⟨i,ei,hi,hji,_⟩,_,_⟩:=hx he
  rw[ei,Int.toNat_natCast]
  have hy:=zl (last:=last) hi
  generalize gW b last i=r at hy
  obtain⟨t2,e2⟩:=r
  split
  ·grind
  ·have he2:e2=0:=by grind
   obtain⟨⟨i2,ei2,hi2,aiS,_⟩,_,_⟩:=hy he2
   grind [Lr]
theorem Sm(hp:CE b c){j:Nat}(hj:j<=b.length)(v:ab)(h:(vH b false j v).2.1≠6):vH c l j v=vH b false j v:=by
 have hx:=zl (last:=false) hj
 have h1:(gW b false j).2≠6:=fun e=>by
  unfold vH at h
  rw[e]at h
  exact h rfl
 have e1:=tc (l:=l) hp hj h1
 unfold vH at h⊢
 rw[e1]
 generalize gW b false j=q at hx h
 obtain⟨t,e⟩:=q
 split
 ·rfl
 ·rename_i hc
  rw[if_neg hc]at h
  have he:e=0:=by grind
  obtain⟨⟨i,ei,hi,hji,_⟩,_,_⟩:=hx he
  rw[ei,Int.toNat_natCast]at h⊢
  have h2:(gW b false i).2≠6:=fun e=>by
   rw[e]at h
   exact h rfl
  grind [tc]
def PQ(c:List UInt8)(l:Bool)(p:PS):PS:={p with b:=c,last:=l}
theorem sgl(hb:b.length<1048576){k:Nat}{t:aF}(ht:yU b k t)(hL:Lf t.V)(h0:t.Kind≠0)(st:List aX):∃v e,∃q:Nat,lM ⟨b,t.To,last,st⟩ t=some (v,e,(q:Int))/\Lr v/\k<q/\q<=b.length:=by
 obtain⟨⟨j,ej,hj1,hj2,hj3⟩,_,_⟩:=ht
 have hj3:=hj3 h0
 unfold lM
 rw[ej]
 split
 ·exact⟨_,_,j,rfl,(by first|exact hL.r|exact⟨rfl,fun h=>by cases h⟩),hj3,hj1⟩
 ·split
  ·unfold j5
   split
   ·exact⟨_,_,j,rfl,(by first|exact hL.r|exact⟨rfl,fun h=>by cases h⟩),hj3,hj1⟩
   ·split
    ·exact⟨_,_,j,rfl,(by first|exact hL.r|exact⟨rfl,fun h=>by cases h⟩),hj3,hj1⟩
    ·split<;>exact⟨_,_,j,rfl,(by first|exact hL.r|exact⟨rfl,fun h=>by cases h⟩),hj3,hj1⟩
  ·show∃v e,∃q:Nat,(if whB t=true then _ else _)=some (v,e,(q:Int))/\_
   split
   ·obtain⟨h1,q,h2,h3,h4⟩:=Sn (last:=last) hj1 hL
    grind [Lz,aJ]
   have hr:=hL.r
   grind
theorem VG(hc:c.length<1048576)(hp:CE b c){k:Nat}{t:aF}(ht:yU b k t)(st:List aX){v:ab}{e q:Int}(h:lM ⟨b,t.To,false,st⟩ t=some (v,e,q))(he:e≠6):lM ⟨c,t.To,l,st⟩ t=some (v,e,q):=by
 obtain⟨⟨j,ej,hj1,hj2,hj3⟩,_,_⟩:=ht
 have hpl:=hp.1
 unfold lM at h⊢
 rw[ej]at h⊢
 split<;>rename_i h1
 ·grind
 rw[if_neg h1]at h
 split<;>rename_i h2
 ·grind
 rw[if_neg h2]at h
 have h:(if whB t=true then bn (cT ⟨b,j,false,.fj⟩ t.V) fun r=>some (r.1,r.2.1,r.2.2.at_)else some (t.V,0,j))=some (v,e,q):=h
 show(if whB t=true then bn (cT ⟨c,j,l,.fj⟩ t.V) fun r=>some (r.1,r.2.1,r.2.2.at_)else some (t.V,0,j))=some (v,e,q)
 split
 ·grind [vH,Prod.mk.inj,Lz,aJ,Sm]
 grind
theorem NL(p:PS)(d:Bool):lh (PQ c l p) d=((lh p d).1,PQ c l (lh p d).2):=by grind [lh,PQ,dJ,decide]
theorem T8{pf:List ab->Option (List ab×Int)}(p:PS)(d:Bool){r:ab×Int×PS}(h:FQ pf p d=some r):FQ pf (PQ c l p) d=some (r.1,r.2.1,PQ c l r.2.2):=by
 obtain⟨b,at_,last,st⟩:=p
 unfold FQ at h⊢
 unfold PQ
 cases he:nq st d with
 |true=>grind
 |false=>
  simp[he]at h⊢
  cases st with
  |nil=>cases h
  |cons v vs=>
   dsimp at h⊢
   cases d with
   |false=>grind
   |true=>
    obtain⟨x,h1,h2⟩:=cO h
    rw[h1,aJ]
    grind
theorem SH(hc:c.length<1048576)(hp:CE b c){pf:List ab->Option (List ab×Int)}{k:Nat}{t:aF}(ht:yU b k t)(st:List aX){r:ab×Bool×Int×PS}(h:uG pf ⟨b,t.To,false,st⟩ t=some r)(he:r.2.2.1≠6):uG pf ⟨c,t.To,l,st⟩ t=some (r.1,r.2.1,r.2.2.1,PQ c l r.2.2.2):=by
 have e0:(⟨c,t.To,l,st⟩)=PQ c l ⟨b,t.To,false,st⟩:=rfl
 unfold uG at h⊢
 by_cases h0:(t.Kind==0)=true
 ·grind
 by_cases h1:(t.Kind==2||t.Kind==4)=true
 ·grind [NL]
 by_cases h2:(t.Kind==3||t.Kind==5)=true
 ·simp[h0,h1,h2,cond_true]at h⊢
  obtain⟨x,g1,g2⟩:=cO h
  injection g2 with g2
  subst g2
  rw[e0,T8 _ _ g1]
  rfl
 ·simp[h0,h1,h2]at h⊢
  obtain⟨⟨v,e,q⟩,g1,g2⟩:=cO h
  have he6:e≠6:=fun h6=>by grind
  rw[VG hc hp ht st g1 he6,aJ]
  cases hx:(e==0&&decide (64<=st.length))<;>simp only[hx,cond_true]at g2⊢<;>injection g2 with g2<;>subst g2<;>rfl
def acx(c:List UInt8)(l:Bool):PS⊕(ab×Int×Int)->PS⊕(ab×Int×Int)
 |.inl p=>.inl (PQ c l p)
 |.inr o=>.inr o
theorem Qm{r:ab×Bool×Int×PS}{x:PS⊕(ab×Int×Int)}(h:F7 r=some x):F7 (r.1,r.2.1,r.2.2.1,PQ c l r.2.2.2)=some (acx c l x):=by
 obtain⟨v,s,e,b,at_,last,st⟩:=r
 unfold F7 at h⊢
 unfold PQ
 by_cases h1:(e !=0)=true
 ·simp only[h1]at h⊢;injection h with h;subst h;rfl
 by_cases h2:(!s)=true
 ·simp only[h1,h2,cond_true]at h⊢;injection h with h;subst h;rfl
 simp[h1,h2]at h⊢
 by_cases h3:st.length<=64
 ·rw[bK h3]at h⊢
  cases st with
  |nil=>injection h with h;subst h;rfl
  |cons v vs=>
   dsimp at h⊢
   by_cases h4:(v.l_.length+1)*56<=room
   ·rw[bK h4]at h⊢
    injection h with h
    subst h
    rfl
   grind [I9]
 grind [I9]
def Tu:List aX->Nat->Prop
 |[],_=>True
 |w::ws,k=>w.l_.length<=k/\(∀x∈w.l_,Wd (66 -ws.length) x)/\Tu ws k
theorem Tu.mono:∀{st:List aX}{j k:Nat},j<=k->Tu st j->Tu st k
 |[],_,_,_,_=>trivial
 |_::_,_,_,h,⟨h1,h2,h3⟩=>⟨by omega,h2,Tu.mono h h3⟩
def NC(b:List UInt8)(o:ab×Int×Int):Prop:=(∃j:Nat,o.2.1=(j:Int)/\j<=b.length)/\Wd 67 o.1
theorem Jg(e:Int):NC b (zV,0,e):=⟨⟨0,rfl,Nat.zero_le _⟩,Wd.leaf rfl (fun h=>by cases h)⟩
def GoV(b:List UInt8)(last:Bool)(k:Nat):PS⊕(ab×Int×Int)->Prop
 |.inl p=>∃(j:Nat)(st:List aX),p=⟨b,(j:Int),last,st⟩/\k<j/\j<=b.length/\st.length<=64/\Tu st j
 |.inr o=>NC b o
theorem KC(hb:b.length<1048576){k q:Nat}(hk:k<q)(hq:q<=b.length){st:List aX}(h64:st.length<=64)(hw:Tu st k){v:ab}(hv:Wd (67 -st.length) v){e:Int}{s:Bool}(hs:s=(e==0)):∃x,F7 (v,s,e,⟨b,(q:Int),last,st⟩)=some x/\GoV b last k x:=by
 have bX:room=140737488355328:=rfl
 subst hs
 by_cases he:e=0
 ·subst he
  unfold F7
  rw[bK h64]
  cases st with
  |nil=>exact⟨_,rfl,⟨q,rfl,hq⟩,hv⟩
  |cons w ws=>
   obtain⟨h1,h2,h3⟩:=hw
   refine⟨_,aD (by grind) rfl,q,_,rfl,hk,hq,h64,?_,?_,h3.mono (by omega)⟩
   ·grind
   grind
 ·exact⟨_,lS he,Jg _⟩
theorem Ki{L:List ab}(h:L.length % 2=0):(dj L (L.length/2)).flatten=L:=by
 have:∀k,(dj L k).flatten=L.take (2*k):=by
  intro k
  induction k with
  |zero=>simp[dj]
  |succ k ih=>grind [mD,List.flatten_append,iV]
 grind [List.take_of_length_le]
theorem RZ{L:List ab}{n:Nat}(h1:L.length<1048576)(h2:L.length % 2=0)(hw:∀x∈L,Wd n x):∃M e,lA L=some (M,e)/\(e=0->M.length<1048577/\∀x∈M,Wd n x):=by
 unfold lA
 rw[bK ⟨by omega,h2⟩]
 cases oG (vO (dj L (L.length/2)))with
 |true=>grind
 |false=>
  have hp:=yM (dj L (L.length/2))
  have hf:=hp.flatten
  grind [dj,Ki]
theorem aeY(hb:b.length<1048576){k:Nat}(hk:k<=b.length){st:List aX}(h64:st.length<=64)(hw:Tu st k):∃x,Mc ⟨b,(k:Int),last,st⟩=some x/\GoV b last k x:=by
 by_cases hok:(gW b last k).2=0
 ·have hM:=MZ (last:=last) hb hk h64 hok
  have ht:=zl hk hok
  have hL:=ahm b last k
  generalize(gW b last k).1=t at hM ht hL
  rw[hM]
  obtain⟨⟨j,ej,hj1,hj2,hj3⟩,kd,_⟩:=ht
  unfold uG
  cases h0:(t.Kind==0)with
  |true=>exact⟨_,lS (by decide),Jg _⟩
  |false=>
  have hk0:t.Kind≠0:=by simpa using h0
  have hj3:=hj3 hk0
  rw[cond_false]
  cases h1:(t.Kind==2||t.Kind==4)with
  |true=>
   rw[cond_true,aJ]
   unfold lh
   dsimp only
   rw[ej]
   cases dJ st with
   |true=>exact⟨_,lS (e:=11) (by decide),Jg _⟩
   |false=>
    by_cases hD:64<=st.length
    ·rw[decide_eq_true hD];exact⟨_,lS (e:=15) (by decide),Jg _⟩
    ·rw[decide_eq_false hD]
     exact⟨_,rfl,j,_,rfl,hj3,hj1,by grind,Nat.zero_le _,fun x hx=>(by cases hx),hw.mono hj2⟩
  |false=>
  rw[cond_false]
  cases h2:(t.Kind==3||t.Kind==5)with
  |true=>
   rw[cond_true]
   unfold FQ
   dsimp only
   rw[ej]
   cases he:nq st (t.Kind==5)with
   |true=>exact⟨_,lS (e:=11) (by decide),Jg _⟩
   |false=>
    rw[cond_false]
    cases st with
    |nil=>cases he
    |cons w ws=>
     obtain⟨w1,w2,w3⟩:=hw
     have hws:ws.length<64:=h64
     dsimp only
     cases hd:(t.Kind==5)with
     |false=>
      rw[cond_false]
      exact KC hb hj3 hj1 (by omega) w3 (by rw[show 67 -ws.length=(66 -ws.length)+1 by omega];exact⟨by grind,w2,fun h=>by cases h⟩) rfl
     |true=>
      rw[cond_true]
      have hev:w.l_.length % 2=0:=by
       rw[hd]at he
       have he:((w.fE !=true)||(true&&!(w.fE&&((w.l_.length:Int).tmod 2==0))))=false:=he
       cases hdd:w.fE with
       |false=>grind
       |true=>grind
      obtain⟨M,e,p1,p2⟩:=RZ (by omega) hev w2
      rw[p1,aJ]
      dsimp only
      by_cases he0:e=0
      ·subst he0
       exact KC hb hj3 hj1 (by omega) w3 (by rw[show 67 -ws.length=(66 -ws.length)+1 by omega];exact⟨(p2 rfl).1,(p2 rfl).2,fun h=>by cases h⟩) rfl
      ·have:(e !=0)=true:=by simpa using he0
       rw[this,cond_true,aJ]
       exact⟨_,lS he0,Jg _⟩
  |false=>
   rw[cond_false]
   obtain⟨v,e,q,s1,s2,s3,s4⟩:=sgl (last:=last) hb ⟨⟨j,ej,hj1,hj2,fun _=>hj3⟩,kd,by assumption⟩ hL hk0 st
   rw[s1,aJ]
   dsimp only
   cases hx:(e==0&&decide (64<=st.length))with
   |true=>exact⟨_,lS (e:=15) (by decide),Jg _⟩
   |false=>exact KC hb s3 s4 h64 hw (by rw[show 67 -st.length=(66 -st.length)+1 by omega];exact Wd.leaf s2.1 s2.2) rfl
 ·exact⟨_,I5 hb hk h64 hok,Jg _⟩
theorem aeX(hc:c.length<1048576)(hp:CE b c){k:Nat}(hk:k<=b.length){st:List aX}(h64:st.length<=64){x:PS⊕(ab×Int×Int)}(h:Mc ⟨b,(k:Int),false,st⟩=some x):(∃v to,x=.inr (v,to,6))\/Mc ⟨c,(k:Int),l,st⟩=some (acx c l x):=by
 have hpl:=hp.1
 by_cases h6:(gW b false k).2=6
 ·grind [I5]
 ·have e1:=tc (l:=l) hp hk h6
  by_cases hok:(gW b false k).2=0
  ·have ht:=zl hk hok
   rw[MZ (by omega) hk h64 hok]at h
   obtain⟨r,r1,r2⟩:=cO h
   grind [lS,MZ,SH,aJ,Qm]
  ·right
   rw[I5 (by omega) hk h64 hok]at h
   injection h with h
   subst h
   rw[I5 hc (by omega) h64 (by grind),e1]
   rfl
theorem Nf{S T O:Type}{f:S->Option (S⊕O)}{g:T->Option (T⊕O)}(I:S->T->Prop)(μ:S->Nat)(J bad:O->Prop)
 (step:∀s t,I s t->∃x,f s=some x/\match x with
   |.inl s'=>(∃t',g t=some (.inl t')/\I s' t')/\μ s'<μ s
   |.inr o=>J o/\(bad o\/g t=some (.inr o))):∀(n:Nat)(s:S)(t:T),I s t->μ s<n->∃o,ch f n s=some o/\J o/\(bad o\/ch g n t=some o)
 |0,_,_,_,h=>absurd h (Nat.not_lt_zero _)
 |n+1,s,t,hi,hn=>by
  obtain⟨x,hx,h⟩:=step s t hi
  cases x with
  |inl s'=>
   obtain⟨⟨t',ht,hi'⟩,hm⟩:=h
   obtain⟨o,h1,h2,h3⟩:=Nf I μ J bad step n s' t' hi' (by omega)
   grind [ch,id]
  |inr o=>grind [ch,id]
theorem V4(hc:c.length<1048576)(hp:CE b c){k:Nat}(hk:k<=b.length):∃o,kl b (k:Int) false=some o/\NC b o/\(o.2.2=6\/kl c (k:Int) l=some o):=by
 have hpl:=hp.1
 have:=Nf (f:=Mc) (g:=Mc) (fun s t=>∃(j:Nat)(st:List aX),s=⟨b,j,false,st⟩/\t=⟨c,j,l,st⟩/\j<=b.length/\st.length<=64/\Tu st j) (fun s=>b.length -s.at_.toNat) (NC b) (fun o=>o.2.2=6)
  (by
    rintro s t ⟨j,st,rfl,rfl,hj,h64,hw⟩
    obtain⟨x,h1,h2⟩:=aeY (by omega) hj h64 hw
    refine⟨x,h1,?_⟩
    have h3:=aeX (l:=l) hc hp hj h64 h1
    cases x with
    |inl p=>
     obtain⟨j',st',rfl,g1,g2,g3,g4⟩:=h2
     rcases h3 with⟨_,_,h3⟩|h3
     ·cases h3
     ·exact⟨⟨_,h3,j',st',rfl,rfl,g2,g3,g4⟩,by grind⟩
    |inr o=>
     refine⟨h2,?_⟩
     rcases h3 with⟨v,to,h3⟩|h3
     ·grind
     ·exact .inr h3) 18446744073709551616 ⟨b,k,false,[]⟩ ⟨c,k,l,[]⟩ ⟨k,[],rfl,rfl,hk,Nat.zero_le _,trivial⟩ (by grind)
 exact this
end
namespace Fq
abbrev z0:ab:=ab.mk 0 0 (bk.mk []) ([]:List ab)
theorem MC(v:ab)(key:bk)(h:v.L.length<1048578):∃r,jh v key=some r/\-1<=r/\r<v.L.length:=by
 by_cases hk:(v.Kind !=7)=true
 ·exact⟨-1,aM hk rfl,by omega,by omega⟩
 ·obtain⟨o,h1,h2⟩:∃o:Unit⊕Int,iter (fun(i2:Int)=>
   if decide (i2<(v.L.length:Int))then
    bt (0<=i2/\i2<v.L.length)<|
    bt ((((ix v.L i2).Kind)==5)=true->0<=i2/\i2<v.L.length)<|
    if(((ix v.L i2).Kind)==5)&&(((ix v.L i2).S).b==key.b)then
     some (.inr (.inr i2))
    else
     some (.inl (aC (i2+2)))
   else
    some (.inr (.inl ()))) 0=some o/\(∀r,o=.inr r->0<=r/\r<v.L.length):=by
   refine eP (fun i=>0<=i) (fun i=>((v.L.length:Int) -i).toNat) _ (Int.le_refl 0) (by omega) fun i hi=>?_
   by_cases hl:i<(v.L.length:Int)
   ·rw[if_pos (by simpa using hl),bK ⟨hi,hl⟩,bK (fun _=>⟨hi,hl⟩)]
    split
    ·exact⟨_,rfl,fun r e=>by injection e with e;subst e;exact⟨hi,hl⟩⟩
    ·refine⟨_,rfl,?_⟩
     show 0<=aC (i+2)/\((v.L.length:Int) -aC (i+2)).toNat<((v.L.length:Int) -i).toNat
     rw[ar (by omega) (by omega)]
     exact⟨by omega,by omega⟩
   ·rw[if_neg (by simpa using hl)]
    exact⟨_,rfl,fun r e=>by cases e⟩
  unfold jh
  rw[if_neg hk,h1]
  cases o with
  |inl u=>exact⟨-1,rfl,by omega,by omega⟩
  |inr r=>exact⟨r,rfl,by have:=h2 r rfl;omega,by have:=h2 r rfl;omega⟩
theorem got(v:ab)(key:bk)(hL:v.L.length<1048578):∃g:ab×Bool,jt v key=some g/\(g.1=z0\/g.1∈v.L):=by
 obtain⟨i,h1,h2,h3⟩:=MC v key hL
 by_cases h0:i<0
 ·exact⟨_,ag h1 (aM (by simpa using h0) rfl),.inl rfl⟩
 have e:aC (i+1)=i+1:=ar (by omega) (by omega)
 by_cases h4:i+1=(v.L.length:Int)
 ·exact⟨_,ag h1 (al (by simpa using h0) (aM (by rw[e];simpa using h4) rfl)),.inl rfl⟩
 ·refine⟨_,ag h1 (al (by simpa using h0) (al (by rw[e];simpa using h4) (aD (by rw[e];omega) rfl))),.inr ?_⟩
  obtain⟨k,hk⟩:∃k:Nat,i+1=k:=⟨(i+1).toNat,by omega⟩
  rw[e,hk,gv (by omega)]
  exact List.getElem_mem _
theorem Ul(v:ab)(key:bk)(hL:v.L.length<1048577):∃i:Int,ll v key=some (decide (i>=0)):=by
 obtain⟨g,h1,_⟩:=got v key (by omega)
 obtain⟨x,b⟩:=g
 cases b with
 |true=>exact⟨0,ag h1 rfl⟩
 |false=>exact⟨-1,ag h1 rfl⟩
theorem OD(v:ab)(hL:v.L.length<1048577):∃p:Bool×Bool,kM v=some p:=by
 obtain⟨⟨g,i⟩,h1,_⟩:=got v (bk.mk [70,105,108,116,101,114]) (by omega)
 refine⟨_,ag h1 (ey (a:=if((g.Kind==6)&&((g.L.length:Int)==1))=true then ix g.L 0 else g) ?_ rfl)⟩
 by_cases hc:((g.Kind==6)&&((g.L.length:Int)==1))=true
 ·exact aM hc (aD (by have h2:=eq_of_beq (Bool.and_eq_true_iff.1 hc).2;show 0<=(0:Int)/\(0:Int)<(g.L.length:Int);omega) (by rw[if_pos hc]))
 ·exact al hc (by rw[if_neg hc])
theorem Ms(v:ab)(key:bk)(hW:Wd 67 v):∃w,gz v key=some w/\Wd 67 w:=by
 have bX:room=140737488355328:=rfl
 have hL:=hW.1
 obtain⟨i,h1,h2,h3⟩:=MC v key (by omega)
 by_cases h0:i<0
 ·exact⟨v,ag h1 (aM (by simpa using h0) rfl),hW⟩
 ·refine⟨_,ag h1 (al (by simpa using h0) (aD ⟨by omega,by omega,by omega⟩ rfl)),?_,fun x hx=>?_,hW.2.2⟩
  ·simp only[List.length_append,List.length_take,List.length_drop];omega
  ·rcases List.mem_append.1 hx with hx|hx
   ·exact hW.2.1 x (List.mem_of_mem_take hx)
   ·exact hW.2.1 x (List.mem_of_mem_drop hx)
theorem acG(v:ab)(hW:Wd 67 v):∃w1 w2,gz v (bk.mk [76,101,110,103,116,104])=some w1/\gz w1 (bk.mk [70,105,108,116,101,114])=some w2/\Wd 67 w2:=by
 obtain⟨w1,a1,aW⟩:=Ms v (bk.mk [76,101,110,103,116,104]) hW
 obtain⟨w2,b1,bW⟩:=Ms w1 (bk.mk [70,105,108,116,101,114]) aW
 exact⟨w1,w2,a1,b1,bW⟩
end Fq
namespace Fq
abbrev R(b:List UInt8)(at_:Int)(last:Bool)(e:Int):af:=af.mk (b9.mk b at_ last) e
abbrev o0:aL:=aL.mk z0 false (bk.mk [])
def acA(last:Bool):Int:=if last then 10 else 6
section
variable{r:af}(h:r.e_≠0)
include h
theorem WG(x y:Int):bU r x y=some (0,r):=by unfold bU;grind
theorem P7(w:bk):ax r w=some r:=by unfold ax;grind
theorem P6:bw r=some (z0,r):=by unfold bw;grind
theorem P5:aO r=some (false,r):=by unfold aO;grind
theorem Ai(n:Int):aI r n=some ([],r):=by unfold aI;grind
end
theorem nr(b:List UInt8)(at_:Int)(last:Bool)(e:Int):aw (R b at_ last 0) e=some (R b at_ last e):=by rfl
theorem te(b:List UInt8)(at_:Int)(last:Bool):de (b9.mk b at_ last)=some (acA last):=by grind [de,acA,last]
section
variable{b:List UInt8}{last:Bool}
theorem PA{j:Nat}(hb:b.length<1048576)(hj:j<=b.length)(e:Int):∃k:Nat,k<=b.length/\
 bt ((decide ((j:Int)<(b.length:Int)))=true->0<=(j:Int)/\(j:Int)<b.length) (if(decide ((j:Int)<(b.length:Int)))&&(((ix b (j:Int)).toNat:Int)==13)then some (aC ((j:Int)+1))else some (j:Int))=some (k:Int)/\
 bt ((decide ((j:Int)<(b.length:Int)))=true->0<=(j:Int)/\(j:Int)<b.length) (if(decide ((j:Int)<(b.length:Int)))&&(((ix b (j:Int)).toNat:Int)==13)then some (R b (aC ((j:Int)+1)) last e)else some (R b (j:Int) last e))=some (R b (k:Int) last e):=by
 have w:aC (j+1)=((j+1:Nat)):=by rw[ar (by omega) (by omega)];omega
 rw[w]
 have hn:(decide (j<(b.length:Int)))=true->0<=(j:Int)/\(j:Int)<b.length:=fun h=>⟨by simp,of_decide_eq_true h⟩
 by_cases hc:((decide ((j:Int)<b.length))&&(((ix b j).toNat:Int)==13))=true
 ·have hlt:=of_decide_eq_true (Bool.and_eq_true_iff.1 hc).1
  exact⟨j+1,by omega,aD hn (aM hc rfl),aD hn (aM hc rfl)⟩
 ·exact⟨j,hj,aD hn (al hc rfl),aD hn (al hc rfl)⟩
theorem xJ:¬((0:Int)!=0)=true:=by simp
abbrev A7(v g:ab):Bool:=(((v.Kind !=7)||(g.Kind !=2))||(decide (g.N<0)))||(decide (g.N>16777216))
def eN(q:Int×Int×Int)(x y:Int):Int:=if(q.2.2==0)&&((decide (q.1<x))||(decide (q.1>y)))then 18 else q.2.2
theorem yy{at_:Int}{q:Int×Int×Int}(h:iu b at_ last=some q)(x y:Int):bU (R b at_ last 0) x y=some (q.1,R b q.2.1 last (eN q x y)):=by
 refine al xJ (ag h (ey ?_ rfl))
 grind [eN]
theorem Wd0:Wd 67 z0:=Wd.leaf rfl (fun h=>by cases h)
end
end Fq
namespace Fq
section
variable{b c:List UInt8}{l:Bool}
def Tw(b c:List UInt8)(l:Bool)(r s:af):Prop:=∃(j:Nat)(e:Int),r=R b (j:Int) false e/\j<=b.length/\(e≠6->∃i:Nat,s=R c (i:Int) l e/\i<=c.length/\(e=0->i=j))
theorem Tw.VI{j:Nat}(hj:j<=b.length)(s:af):Tw b c l (R b (j:Int) false 6) s:=⟨j,6,rfl,hj,fun h=>absurd rfl h⟩
theorem Tw.both{j:Nat}{e:Int}(hp:CE b c)(hj:j<=b.length):Tw b c l (R b (j:Int) false e) (R c (j:Int) l e):=⟨j,e,rfl,hj,fun _=>⟨j,rfl,by have:=hp.1;omega,fun _=>rfl⟩⟩
def oY{α:Type}(b c:List UInt8)(l:Bool)(r s:af)(F:af->Option (α×af)):Prop:=∃x r' s',F r=some (x,r')/\Tw b c l r' s'/\(r'.e_≠6->r.e_≠6/\F s=some (x,s'))
theorem oY.dead{α:Type}{r s:af}(h:Tw b c l r s)(he:r.e_≠0){F:af->Option (α×af)}(x:α)(hF:∀r:af,r.e_≠0->F r=some (x,r)):oY b c l r s F:=by
 refine⟨x,r,s,hF r he,h,fun h6=>⟨h6,hF s ?_⟩⟩
 obtain⟨j,e,rfl,hj,h2⟩:=h
 obtain⟨i,rfl,_⟩:=h2 h6
 exact he
theorem Tw.live{r s:af}(h:Tw b c l r s)(he:r.e_=0):∃j:Nat,j<=b.length/\r=R b (j:Int) false 0/\s=R c (j:Int) l 0:=by
 obtain⟨j,e,rfl,hj,h2⟩:=h
 obtain rfl:e=0:=he
 obtain⟨i,rfl,_,h3⟩:=h2 (by decide)
 obtain rfl:=h3 rfl
 exact⟨i,hj,rfl,rfl⟩
theorem oY.by{α:Type}{r s:af}(h:Tw b c l r s){F:af->Option (α×af)}(x:α)(hF:∀r:af,r.e_≠0->F r=some (x,r))(QN:∀j:Nat,j<=b.length->oY b c l (R b (j:Int) false 0) (R c (j:Int) l 0) F):oY b c l r s F:=by
 by_cases he:r.e_=0
 ·obtain⟨j,hj,rfl,rfl⟩:=h.live he
  exact QN j hj
 ·exact oY.dead h he x hF
theorem Zs{b:List UInt8}{j:Int}{l:Bool}:(R b j l 0).e_≠6:=by show(0:Int)≠6;decide
variable(hc:c.length<1048576)(hp:CE b c)
theorem yz{last:Bool}{k:Nat}(hk:k<=b.length):∃j:Nat,(gW b last k).1.To=(j:Int)/\j<=b.length:=by
 by_cases h:(gW b last k).2=0
 ·obtain⟨⟨j,h1,h2,_⟩,_,_⟩:=zl hk h
  exact⟨j,h1,h2⟩
 ·have hs:=LG (b:=b) k hk
  refine⟨Ca b k,?_,hs.2⟩
  unfold gW at h⊢
  cases hx:b[Ca b k]? with
  |none=>rfl
  |some x=>
   rw[hx]at h
   have h:(Hw b last (Ca b k) x).2≠0:=h
   show(Hw b last (Ca b k) x).1.To=_
   have tk:∀(f t:Nat)(q:ab×Int),(tok f t q).2≠0->(tok f t q).1.To=f:=fun f t q h=>by
    unfold tok at h⊢
    split
    ·rfl
    ·rename_i hn;rw[if_neg hn]at h;exact absurd rfl h
   have sr:∀(f:Nat)(q:(List UInt8×Nat)⊕Int),(yN f q).2≠0->(yN f q).1.To=f:=fun f q h=>by
    cases q with
    |inl q=>exact absurd rfl h
    |inr e=>rfl
   unfold Hw at h⊢
   repeat' split
   all_goals simp_all [RH]
include hc hp
theorem EF{r s:af}(h:Tw b c l r s)(x y:Int):oY b c l r s (fun r=>bU r x y):=by
 have hpl:=hp.1
 refine oY.by h 0 (fun r hr=>WG hr x y) fun j hj=>?_
 have h1:=yy (Gt (last:=false) (by omega) j hj) x y
 by_cases h6:(gW b false j).2=6
 ·have:vC b false j=(0,0,6):=by unfold vC;rw[h6];rfl
  rw[this]at h1
  exact⟨_,_,R c 0 l 0,h1,Tw.VI (j:=0) (Nat.zero_le _) _,fun h=>absurd rfl h⟩
 ·have e1:vC c l j=vC b false j:=by unfold vC;rw[tc hp hj h6]
  have h2:=yy (Gt (last:=l) hc j (by omega)) x y
  rw[e1]at h2
  obtain⟨i,i1,i2⟩:∃i:Nat,(vC b false j).2.1=(i:Int)/\i<=b.length:=by
   obtain⟨i,i1,i2⟩:=yz (last:=false) hj
   unfold vC
   split
   ·exact⟨0,rfl,Nat.zero_le _⟩
   ·split
    ·exact⟨0,rfl,Nat.zero_le _⟩
    ·split
     ·exact⟨0,rfl,Nat.zero_le _⟩
     ·exact⟨i,i1,i2⟩
  rw[i1]at h1 h2
  exact⟨_,_,_,h1,Tw.both hp i2,fun _=>⟨Zs,h2⟩⟩
def W1(F:af->Option af):af->Option (Unit×af):=fun r=>bn (F r) fun r=>some ((),r)
theorem Hn{r s:af}(h:Tw b c l r s)(w:List UInt8):oY b c l r s (W1 fun r=>ax r ⟨w⟩):=by
 have hpl:=hp.1
 refine oY.by h () (fun r hr=>ag (P7 hr ⟨w⟩) rfl) fun j hj=>?_
 have wd:∀{b:List UInt8}{last:Bool},b.length<1048576->j<=b.length->W1 (fun r=>ax r ⟨w⟩) (R b (j:Int) last 0)=some ((),R b (l9 b last j w).1 last (l9 b last j w).2):=fun hb hj=>by
  refine ag ?_ rfl
  unfold ax
  exact al xJ (ag (Rl hb j hj w) rfl)
 have h1:=wd (last:=false) (b:=b) (by omega) hj
 by_cases h6:(gW b false j).2=6
 ·have:l9 b false j w=(0,6):=by unfold l9;rw[h6];rfl
  rw[this]at h1
  exact⟨_,_,R c 0 l 0,h1,Tw.VI (j:=0) (Nat.zero_le _) _,fun h=>absurd rfl h⟩
 ·have e1:l9 c l j w=l9 b false j w:=by unfold l9;rw[tc hp hj h6]
  have h2:=wd (last:=l) hc (by omega)
  rw[e1]at h2
  obtain⟨i,i1,i2⟩:∃i:Nat,(l9 b false j w).1=(i:Int)/\i<=b.length:=by
   obtain⟨i,i1,i2⟩:=yz (last:=false) hj
   unfold l9
   split
   ·exact⟨0,rfl,Nat.zero_le _⟩
   ·split
    ·exact⟨0,rfl,Nat.zero_le _⟩
    ·split
     ·exact⟨0,rfl,Nat.zero_le _⟩
     ·exact⟨i,i1,i2⟩
  rw[i1]at h1 h2
  exact⟨_,_,_,h1,Tw.both hp i2,fun _=>⟨Zs,h2⟩⟩
theorem Ti{r s:af}(h:Tw b c l r s):oY b c l r s bw/\∀v r',bw r=some (v,r')->Wd 67 v:=by
 have hpl:=hp.1
 by_cases he:r.e_=0
 ·obtain⟨j,hj,rfl,rfl⟩:=h.live he
  obtain⟨⟨v,to,e⟩,h1,h2,h3⟩:=V4 (l:=l) hc hp hj
  obtain⟨⟨i,i1,i2⟩,h2⟩:=h2
  dsimp only at h3
  have i1:to=(i:Int):=i1
  subst i1
  have g1:bw (R b (j:Int) false 0)=some (v,R b (i:Int) false e):=by
   unfold bw
   exact al xJ (ag h1 rfl)
  refine⟨?_,fun v' r' hv=>?_⟩
  ·by_cases h6:e=6
   ·subst h6
    exact⟨_,_,R c 0 l 0,g1,Tw.VI i2 _,fun h=>absurd rfl h⟩
   ·have g2:bw (R c (j:Int) l 0)=some (v,R c (i:Int) l e):=by
     unfold bw
     exact al xJ (ag (h3.resolve_left h6) rfl)
    exact⟨_,_,_,g1,Tw.both hp i2,fun _=>⟨Zs,g2⟩⟩
  ·rw[g1]at hv
   injection hv with hv
   injection hv with hv1 hv2
   subst hv1 hv2
   exact h2
 ·refine⟨oY.dead h he _ fun r hr=>P6 hr,fun v' r' hv=>?_⟩
  rw[P6 he]at hv
  injection hv with hv
  injection hv with hv1 hv2
  subst hv1
  exact Wd0
theorem LO{r s:af}(h:Tw b c l r s):oY b c l r s aO/\∀x r',aO r=some (x,r')->x=true->r'.e_=0:=by
 have hpl:=hp.1
 have go:∀{b:List UInt8}{last:Bool}{j:Nat},b.length<1048576->j<=b.length->∃x e,aO (R b (j:Int) last 0)=some (x,R b (gW b last j).1.To last e)/\((gW b last j).2≠0->e=(gW b last j).2)/\(x=true->e=0)/\∀(c:List UInt8)(l:Bool),c.length<1048576->j<=c.length->gW c l j=gW b last j->aO (R c (j:Int) l 0)=some (x,R c (gW b last j).1.To l e):=by
  intro b last j hb hj
  have key:∃x e,((gW b last j).2≠0->e=(gW b last j).2)/\(x=true->e=0)/\∀(c:List UInt8)(l:Bool),c.length<1048576->j<=c.length->gW c l j=gW b last j->aO (R c (j:Int) l 0)=some (x,R c (gW b last j).1.To l e):=by
   generalize gW b last j=q
   obtain⟨t,e⟩:=q
   dsimp only
   have st:∀(x:Bool)(e2:Int),(∀(c:List UInt8)(l:Bool),(jn (
    if e !=0 then
     some (R c t.To l e)
    else
     if t.Kind==0 then
      bn (aw (R c t.To l e) 10) fun r4=>
      some r4
     else
      if(t.Kind !=6)||((!(t.S.b==(bk.mk [101,110,100,111,98,106]).b))&&(!(t.S.b==(bk.mk [115,116,114,101,97,109]).b)))then
       bn (aw (R c t.To l e) 18) fun r5=>
       some r5
      else
       some (R c t.To l e)) fun(o3:af)=>
    some ((o3.e_==0)&&(t.S.b==(bk.mk [115,116,114,101,97,109]).b),o3))=some (x,R c t.To l e2))->∀(c:List UInt8)(l:Bool),c.length<1048576->j<=c.length->gW c l j=(t,e)->aO (R c (j:Int) l 0)=some (x,R c t.To l e2):=fun x e2 h c l hc hj hn=>by
    unfold aO
    exact al xJ (ag (zg hc j hj) (by rw[hn];exact h c l))
   by_cases he:e=0
   ·subst he
    by_cases h0:(t.Kind==0)=true
    ·exact⟨false,10,fun h=>absurd rfl h,(fun h=>by cases h),st _ _ fun c l=>ey (al xJ (aM h0 (ag (nr _ _ _ _) rfl))) rfl⟩
    ·by_cases hw:((t.Kind !=6)||((!(t.S.b==(bk.mk [101,110,100,111,98,106]).b))&&(!(t.S.b==(bk.mk [115,116,114,101,97,109]).b))))=true
     ·exact⟨false,18,fun h=>absurd rfl h,(fun h=>by cases h),st _ _ fun c l=>ey (al xJ (al h0 (aM hw (ag (nr _ _ _ _) rfl)))) rfl⟩
     ·exact⟨_,0,fun h=>absurd rfl h,fun _=>rfl,st _ _ fun c l=>ey (al xJ (al h0 (al hw rfl))) rfl⟩
   ·have hn:(e !=0)=true:=by simpa using he
    refine⟨false,e,fun _=>rfl,(fun h=>by cases h),st _ _ fun c l=>ey (aM hn rfl) ?_⟩
    show some ((e==0)&&_,_)=_
    rw[show(e==0)=false by simpa using he];rfl
  obtain⟨x,e,h1,h2,h3⟩:=key
  exact⟨x,e,h3 b last hb hj rfl,h1,h2,h3⟩
 refine⟨oY.by h false (fun r hr=>P5 hr) fun j hj=>?_,fun x r' hx hx2=>?_⟩
 ·obtain⟨x,e,h1,h2,_,h3⟩:=go (last:=false) (b:=b) (by omega) hj
  obtain⟨i,i1,i2⟩:=yz (last:=false) hj
  by_cases h6:(gW b false j).2=6
  ·rw[h2 (by rw[h6];decide),h6,i1]at h1
   exact⟨_,_,R c 0 l 0,h1,Tw.VI i2 _,fun h=>absurd rfl h⟩
  ·have h4:=h3 c l hc (by omega) (tc hp hj h6)
   rw[i1]at h1 h4
   exact⟨_,_,_,h1,Tw.both hp i2,fun _=>⟨Zs,h4⟩⟩
 ·by_cases he:r.e_=0
  ·obtain⟨j,hj,rfl,rfl⟩:=h.live he
   obtain⟨x',e,h1,_,h2,_⟩:=go (last:=false) (b:=b) (by omega) hj
   rw[h1]at hx
   injection hx with hx
   injection hx with hx1 hx3
   subst hx1 hx3
   exact h2 hx2
  ·rw[P5 he]at hx
   injection hx with hx
   injection hx with hx1 hx3
   rw[<-hx1]at hx2;cases hx2
omit hp in
theorem nz{j:Nat}{last:Bool}(hj:j<=c.length){e:Int}(he:e≠0):∃k:Nat,k<=c.length/\aZ (R c (j:Int) last e)=some (R c (k:Int) last e):=by
 obtain⟨k,hk,_,h2⟩:=PA (last:=last) hc hj e
 refine⟨k,hk,?_⟩
 unfold aZ
 exact ey h2 (aM (by simpa using he) rfl)
theorem UQ{r s:af}(h:Tw b c l r s):oY b c l r s (W1 aZ):=by
 have hpl:=hp.1
 by_cases he:r.e_=0
 ·obtain⟨j,hj,rfl,rfl⟩:=h.live he
  have hix:∀k:Nat,k<b.length->ix c (k:Int)=ix b (k:Int):=fun k hk=>by
   have:=hp.2 _ _ (List.getElem?_eq_getElem hk)
   rw[(cZ this).2,(cZ (List.getElem?_eq_getElem hk)).2]
  have pl:∃k:Nat,k<=b.length/\∀(c:List UInt8)(l:Bool),b.length<=c.length->c.length<1048576->(∀k:Nat,k<b.length->ix c (k:Int)=ix b (k:Int))->k<b.length\/c=b->
   bt ((decide ((j:Int)<(c.length:Int)))=true->0<=(j:Int)/\(j:Int)<c.length) (if(decide ((j:Int)<(c.length:Int)))&&(((ix c (j:Int)).toNat:Int)==13)then some (R c (aC ((j:Int)+1)) l 0)else some (R c (j:Int) l 0))=some (R c (k:Int) l 0):=by
   have w:aC ((j:Int)+1)=((j+1:Nat):Int):=by rw[ar (by omega) (by omega)];omega
   by_cases hjl:j<b.length
   ·by_cases h13:(((ix b (j:Int)).toNat:Int)==13)=true
    ·refine⟨j+1,by omega,fun c l h1 h2 h3 _=>aD (fun _=>by omega) (aM (by rw[h3 j hjl,h13,decide_eq_true (by omega)];rfl) (by rw[w]))⟩
    ·refine⟨j,by omega,fun c l h1 h2 h3 _=>aD (fun _=>by omega) (al (by rw[h3 j hjl];simp[h13]) rfl)⟩
   ·refine⟨j,hj,fun c l h1 h2 h3 h4=>?_⟩
    rcases h4 with h4|rfl
    ·omega
    ·exact aD (fun h=>⟨by omega,of_decide_eq_true h⟩) (al (by rw[decide_eq_false (by omega)];simp) rfl)
  obtain⟨k,hk,ac8⟩:=pl
  have pb:=ac8 b false (Nat.le_refl _) (by omega) (fun _ _=>rfl) (.inr rfl)
  by_cases hkl:k<b.length
  ·have pc:=ac8 c l hpl hc hix (.inl hkl)
   have fin:∀(c:List UInt8)(l:Bool),b.length<=c.length->c.length<1048576->(∀k:Nat,k<b.length->ix c (k:Int)=ix b (k:Int))->bt ((decide ((j:Int)<(c.length:Int)))=true->0<=(j:Int)/\(j:Int)<c.length) (if(decide ((j:Int)<(c.length:Int)))&&(((ix c (j:Int)).toNat:Int)==13)then some (R c (aC ((j:Int)+1)) l 0)else some (R c (j:Int) l 0))=some (R c (k:Int) l 0)->
    W1 aZ (R c (j:Int) l 0)=some ((),if(((ix b (k:Int)).toNat:Int)!=10)=true then R c (k:Int) l 18 else R c ((k+1:Nat):Int) l 0):=fun c l h1 h2 h3 h4=>by
    have w:aC ((k:Int)+1)=((k+1:Nat):Int):=by rw[ar (by omega) (by omega)];omega
    refine ag ?_ rfl
    unfold aZ
    refine ey h4 (al xJ (al (by show¬decide ((k:Int)>=(c.length:Int))=true;simp;omega) (aD (by show 0<=(k:Int)/\(k:Int)<c.length;omega) ?_)))
    show(if((ix c (k:Int)).toNat:Int)!=10 then _ else _)=_
    rw[h3 k hkl]
    split
    ·exact ag (nr _ _ _ _) rfl
    ·show some (R c (aC ((k:Int)+1)) l 0)=_
     rw[w]
   have f1:=fin b false (Nat.le_refl _) (by omega) (fun _ _=>rfl) pb
   have f2:=fin c l hpl hc hix pc
   refine⟨_,_,_,f1,?_,fun _=>⟨Zs,f2⟩⟩
   split
   ·exact Tw.both hp hk
   ·exact Tw.both hp hkl
  ·refine⟨(),R b (k:Int) false 6,R c 0 l 0,ag ?_ rfl,Tw.VI hk _,fun h=>absurd rfl h⟩
   unfold aZ
   exact ey pb (al xJ (aM (by simp;omega) (ag (te b _ false) (ag (nr _ _ _ _) rfl))))
 ·obtain⟨j,e,rfl,hj,h2⟩:=h
  have he:e≠0:=he
  obtain⟨k,hk,hl⟩:=nz (c:=b) (last:=false) (by omega) hj he
  by_cases h6:e=6
  ·subst h6
   exact⟨(),_,R c 0 l 0,ag hl rfl,Tw.VI hk _,fun h=>absurd rfl h⟩
  ·obtain⟨i,rfl,hi,_⟩:=h2 h6
   obtain⟨k2,hk2,hl2⟩:=nz (last:=l) hc hi he
   exact⟨(),_,_,ag hl rfl,⟨k,e,rfl,hk,fun _=>⟨k2,rfl,hk2,fun h=>absurd h he⟩⟩,fun _=>⟨h6,ag hl2 rfl⟩⟩
theorem PI{r s:af}(h:Tw b c l r s)(n:Int)(hn:r.e_=0->0<=n/\n<=16777216):oY b c l r s (fun r=>aI r n):=by
 have hpl:=hp.1
 by_cases he:r.e_=0
 ·obtain⟨j,hj,rfl,rfl⟩:=h.live he
  obtain⟨n0,n1⟩:=hn rfl
  obtain⟨m,rfl⟩:∃m:Nat,n=m:=⟨n.toNat,by omega⟩
  have w3:∀c:List UInt8,c.length<1048576->aC ((c.length:Int) -(j:Int))=(c.length:Int) -(j:Int):=fun c hc=>ar (by omega) (by omega)
  by_cases hlt:(b.length:Int) -(j:Int)<(m:Int)
  ·refine⟨[],R b (j:Int) false 6,R c 0 l 0,?_,Tw.VI hj _,fun h=>absurd rfl h⟩
   show aI _ _=_
   unfold aI
   exact al xJ (aM (by show decide ((m:Int)>aC ((b.length:Int) -(j:Int)))=true;rw[w3 b (by omega)];exact decide_eq_true hlt) (ag (te b _ false) (ag (nr _ _ _ _) rfl)))
  ·have w4:aC ((j:Int)+(m:Int))=((j+m:Nat):Int):=by rw[ar (by omega) (by omega)];omega
   have w5:aC (((j+m:Nat):Int) -(m:Int))=(j:Int):=by rw[ar (by omega) (by omega)];omega
   have hby:∀(c:List UInt8)(l:Bool),c.length<1048576->j+m<=c.length->aI (R c (j:Int) l 0) (m:Int)=some (part c (j:Int) ((j+m:Nat):Int),R c ((j+m:Nat):Int) l 0):=fun c l hc hm=>by
    unfold aI
    refine al xJ (al (by show¬decide ((m:Int)>aC ((c.length:Int) -(j:Int)))=true;rw[w3 c hc];simp;omega) ?_)
    show bt (0<=aC ((aC ((j:Int)+(m:Int))) -(m:Int))/\aC ((aC ((j:Int)+(m:Int))) -(m:Int))<=aC ((j:Int)+(m:Int))/\aC ((j:Int)+(m:Int))<=c.length) (some (part c (aC ((aC ((j:Int)+(m:Int))) -(m:Int))) (aC ((j:Int)+(m:Int))),R c (aC ((j:Int)+(m:Int))) l 0))=_
    rw[w4,w5]
    exact aD (by omega) rfl
   have h1:=hby b false (by omega) (by omega)
   have h2:=hby c l hc (by omega)
   rw[hp.part (by omega)]at h2
   exact⟨_,_,_,h1,Tw.both hp (by omega),fun _=>⟨Zs,h2⟩⟩
 ·exact oY.dead h he [] fun r hr=>Ai hr n
omit hc hp in
theorem Mz{r s:af}(h:Tw b c l r s){e:Int}(h6:e≠6):oY b c l r s (W1 fun r=>aw r e):=by
 obtain⟨j,e1,rfl,hj,h2⟩:=h
 by_cases h0:e1=0
 ·subst h0
  obtain⟨i,rfl,hi,h3⟩:=h2 (by decide)
  obtain rfl:=h3 rfl
  exact⟨(),_,_,ag (nr _ _ _ _) rfl,⟨i,e,rfl,hj,fun _=>⟨i,rfl,hi,fun _=>rfl⟩⟩,fun _=>⟨Zs,ag (nr _ _ _ _) rfl⟩⟩
 ·refine oY.dead ⟨j,e1,rfl,hj,h2⟩ h0 () fun r hr=>ag (a:=r) ?_ rfl
  unfold aw
  exact al (by simpa using hr) rfl
def T0(p:Bool)(x:List UInt8)(r:af):Option (List UInt8×af):=
 if p&&(r.e_==0)then
  bn (gm x 16777216) fun r18=>
  jn (
   if r18.2.2 !=0 then
    bn (aw r 18) fun r23=>
    some r23
   else
    some r) fun(o22:af)=>
  some (r18.1,o22)
  else
   some (x,r)
omit hc hp in
theorem TW{r s:af}(h:Tw b c l r s)(p:Bool){x:List UInt8}(hx:r.e_=0->x.length<1048576):oY b c l r s (T0 p x):=by
 cases p with
 |false=>refine⟨x,r,s,al (by simp) rfl,h,fun h6=>⟨h6,al (by simp) rfl⟩⟩
 |true=>
  by_cases he:r.e_=0
  ·obtain⟨j,hj,rfl,rfl⟩:=h.live he
   have hu:gm x 16777216=some (rl x 16777216):=by unfold gm;exact aD ⟨by have:=hx rfl;omega,by decide,by decide⟩ rfl
   generalize rl x 16777216=u at hu
   by_cases h0:(u.2.2 !=0)=true
   ·obtain⟨_,r',s',h1,h2,h3⟩:=Mz h (e:=18) (by decide)
    obtain⟨r1,h4,h5⟩:=cO h1
    injection h5 with h5
    injection h5 with _ h5
    subst h5
    refine⟨u.1,r1,s',aM rfl (ag hu (ey (aM h0 (ag h4 rfl)) rfl)),h2,fun h6=>?_⟩
    obtain⟨g1,g2⟩:=h3 h6
    obtain⟨s1,g4,g5⟩:=cO g2
    injection g5 with g5
    injection g5 with _ g5
    subst g5
    exact⟨g1,aM rfl (ag hu (ey (aM h0 (ag g4 rfl)) rfl))⟩
   ·refine⟨u.1,_,_,aM rfl (ag hu (ey (al h0 rfl) rfl)),h,fun h6=>⟨h6,aM rfl (ag hu (ey (al h0 rfl) rfl))⟩⟩
  ·refine oY.dead h he x fun r hr=>al (by simp[hr]) rfl
omit hc hp in
theorem oY.seq{α β:Type}{r s:af}{F:af->Option (α×af)}{K:α->af->Option (β×af)}(h:oY b c l r s F)(hk:∀x r' s',F r=some (x,r')->Tw b c l r' s'->oY b c l r' s' (K x)):oY b c l r s (fun r=>bn (F r) fun q=>K q.1 q.2):=by
 obtain⟨x,r',s',h1,h2,h3⟩:=h
 obtain⟨y,r2,s2,g1,g2,g3⟩:=hk x r' s' h1 h2
 refine⟨y,r2,s2,ag h1 g1,g2,fun h6=>?_⟩
 obtain⟨k1,k2⟩:=g3 h6
 obtain⟨k3,k4⟩:=h3 k1
 exact⟨k3,ag k4 k2⟩
omit hc hp in
theorem oY.pure{α:Type}{r s:af}(h:Tw b c l r s)(x:α):oY b c l r s (fun r=>some (x,r)):=⟨x,r,s,rfl,h,fun h6=>⟨h6,rfl⟩⟩
omit hc hp in
theorem oY.eq{α:Type}{r s:af}{F G:af->Option (α×af)}(h:oY b c l r s F)(e:∀r,F r=G r):oY b c l r s G:=by
 have:F=G:=funext e
 rw[<-this];exact h
omit hc hp in
theorem E1{v:ab}(hW:Wd 67 v):∃(g:ab)(i:Int)(p:Bool×Bool)(w2:ab),Wd 67 w2/\∀r,(bn (W1 (fun r=>if((A7 v g||decide (i>=0))||!p.2)=true then aw r 18 else some r) r) fun q1=>bn (W1 aZ q1.2) fun q2=>bn (aI q2.2 g.N) fun q3=>bn (W1 (fun r=>ax r (bk.mk [101,110,100,115,116,114,101,97,109])) q3.2) fun q4=>bn (W1 (fun r=>ax r (bk.mk [101,110,100,111,98,106])) q4.2) fun q5=>bn (T0 p.1 q3.1 q5.2) fun q6=>some ((⟨w2,true,⟨q6.1⟩⟩:aL),q6.2))=bg r v:=by
 obtain⟨⟨g,gi⟩,g1,_⟩:=got v (bk.mk [76,101,110,103,116,104]) (by have:=hW.1;omega)
 obtain⟨p,p1⟩:=OD v hW.1
 obtain⟨i,i1⟩:=Ul v (bk.mk [68,101,99,111,100,101,80,97,114,109,115]) hW.1
 obtain⟨w1,w2,a1,a2,hW2⟩:=acG v hW
 have hA:bn (jv (!A7 v g) false (ll v (bk.mk [68,101,99,111,100,101,80,97,114,109,115]))) (fun r8=>some ((A7 v g||r8)||(!p.2)))=some ((A7 v g||decide (i>=0))||!p.2):=by
  cases hA:A7 v g with
  |true=>rfl
  |false=>exact ag i1 rfl
 refine⟨g,i,p,w2,hW2,fun r=>?_⟩
 unfold bg
 rw[g1,aJ,p1,aJ]
 have hB:∀(r:af),(bn (jv (!((((v.Kind !=7)||(g.Kind !=2))||(decide (g.N<0)))||(decide (g.N>16777216)))) false (ll v (bk.mk [68,101,99,111,100,101,80,97,114,109,115]))) fun r8=>
 if(((((v.Kind !=7)||(g.Kind !=2))||(decide (g.N<0)))||(decide (g.N>16777216)))||r8)||(!p.2)then
  bn (aw r 18) fun r9=>
  some r9
 else
  some r)=if((A7 v g||decide (i>=0))||!p.2)=true then aw r 18 else some r:=fun r=>by
  obtain⟨q,h1,h2⟩:=cO hA
  injection h2 with h2
  refine ag h1 ?_
  show(if((A7 v g||q)||(!p.2))=true then bn (aw r 18) (fun r9=>some r9)else some r)=_
  rw[h2]
  split
  ·cases aw r 18<;>rfl
  ·rfl
 rw[hB]
 simp only[W1]
 cases(if((A7 v g||decide (i>=0))||!p.2)=true then aw r 18 else some r)with
 |none=>rfl
 |some r1=>
 show bn (bn (aZ r1) _) _=jn (some r1) _
 rw[Gr]
 cases aZ r1 with
 |none=>rfl
 |some r2=>
 rw[aJ,aJ,aJ]
 cases aI r2 g.N with
 |none=>rfl
 |some r3=>
 rw[aJ,aJ]
 cases ax r3.2 (bk.mk [101,110,100,115,116,114,101,97,109])with
 |none=>rfl
 |some r4=>
 rw[aJ,aJ,aJ]
 cases ax r4 (bk.mk [101,110,100,111,98,106])with
 |none=>rfl
 |some r5=>
 rw[aJ,aJ,aJ]
 unfold T0
 rw[a1]
 generalize(if(p.1&&(r5.e_==0))=true then _ else _:Option (List UInt8×af))=z
 cases z with
 |none=>rfl
 |some z=>
  rw[aJ,Gr]
  rw[aJ,a2]
  rfl
theorem Pa{r s:af}(h:Tw b c l r s){v:ab}(hW:Wd 67 v):oY b c l r s (fun r=>bg r v)/\∀o r',bg r v=some (o,r')->Wd 67 o.V:=by
 have hpl:=hp.1
 obtain⟨g,i,p,w2,hW2,e⟩:=E1 hW
 have main:oY b c l r s (fun r=>bg r v):=by
  refine oY.eq ?_ e
  refine oY.seq (K:=fun _ q=>bn (W1 aZ q) fun q2=>bn (aI q2.2 g.N) fun q3=>bn (W1 (fun r=>ax r (bk.mk [101,110,100,115,116,114,101,97,109])) q3.2) fun q4=>bn (W1 (fun r=>ax r (bk.mk [101,110,100,111,98,106])) q4.2) fun q5=>bn (T0 p.1 q3.1 q5.2) fun q6=>some ((⟨w2,true,⟨q6.1⟩⟩:aL),q6.2)) ?_ fun _ r1 s1 f1 t1=>?_
  ·split
   ·exact Mz h (by decide)
   ·exact oY.pure h ()
  have hN:r1.e_=0->0<=g.N/\g.N<=16777216:=fun h0=>by
   by_cases Dh:((A7 v g||decide (i>=0))||!p.2)=true
   ·have f1:(bn (if((A7 v g||decide (i>=0))||!p.2)=true then aw r 18 else some r) fun r=>some ((),r))=some ((),r1):=f1
    rw[if_pos Dh]at f1
    obtain⟨r0,f2,f3⟩:=cO f1
    injection f3 with f3
    injection f3 with _ f3
    subst f3
    unfold aw at f2
    by_cases h00:(r.e_==0)=true
    ·rw[if_pos h00]at f2;injection f2 with f2;subst f2;cases h0
    ·rw[if_neg h00]at f2;injection f2 with f2;subst f2;exact absurd (by simpa using h0) h00
   ·have hA:=(Bool.or_eq_false_iff.1 (Bool.or_eq_false_iff.1 (by simpa using Dh:((A7 v g||decide (i>=0))||!p.2)=false)).1).1
    have h1:=(Bool.or_eq_false_iff.1 hA).2
    have h2:=(Bool.or_eq_false_iff.1 (Bool.or_eq_false_iff.1 hA).1).2
    exact⟨by have:=of_decide_eq_false h2;omega,by have:=of_decide_eq_false h1;omega⟩
  refine oY.seq (K:=fun _ q=>bn (aI q g.N) fun q3=>bn (W1 (fun r=>ax r (bk.mk [101,110,100,115,116,114,101,97,109])) q3.2) fun q4=>bn (W1 (fun r=>ax r (bk.mk [101,110,100,111,98,106])) q4.2) fun q5=>bn (T0 p.1 q3.1 q5.2) fun q6=>some ((⟨w2,true,⟨q6.1⟩⟩:aL),q6.2)) (UQ hc hp t1) fun _ r2 s2 f2 t2=>?_
  have hN2:r2.e_=0->0<=g.N/\g.N<=16777216:=fun h0=>by
   by_cases h1:r1.e_=0
   ·exact hN h1
   ·obtain⟨j,e,rfl,hj,_⟩:=t1
    obtain⟨k,hk,hl⟩:=nz (c:=b) (last:=false) (by omega) hj h1
    unfold W1 at f2
    rw[hl,aJ]at f2
    injection f2 with f2
    injection f2 with _ f2
    subst f2
    exact absurd h0 h1
  refine oY.seq (K:=fun x q=>bn (W1 (fun r=>ax r (bk.mk [101,110,100,115,116,114,101,97,109])) q) fun q4=>bn (W1 (fun r=>ax r (bk.mk [101,110,100,111,98,106])) q4.2) fun q5=>bn (T0 p.1 x q5.2) fun q6=>some ((⟨w2,true,⟨q6.1⟩⟩:aL),q6.2)) (PI hc hp t2 g.N hN2) fun x r3 s3 f3 t3=>?_
  have hx:x.length<1048576:=by
   by_cases h2:r2.e_=0
   ·obtain⟨j,hj,rfl,_⟩:=t2.live h2
    have f3:aI (R b (j:Int) false 0) g.N=some (x,r3):=f3
    unfold aI at f3
    rw[if_neg xJ]at f3
    split at f3
    ·rw[te,aJ,nr,aJ]at f3
     injection f3 with f3
     injection f3 with f3 _
     subst f3
     decide
    ·unfold bt at f3
     split at f3
     ·injection f3 with f3
      injection f3 with f3 _
      subst f3
      unfold AB.part
      rw[List.length_take,List.length_drop]
      show min _ (b.length -_)<_
      omega
     ·cases f3
   ·have f3:aI r2 g.N=some (x,r3):=f3
    rw[Ai h2]at f3
    injection f3 with f3
    injection f3 with f3 _
    subst f3
    decide
  refine oY.seq (K:=fun _ q=>bn (W1 (fun r=>ax r (bk.mk [101,110,100,111,98,106])) q) fun q5=>bn (T0 p.1 x q5.2) fun q6=>some ((⟨w2,true,⟨q6.1⟩⟩:aL),q6.2)) (Hn hc hp t3 _) fun _ r4 s4 f4 t4=>?_
  refine oY.seq (K:=fun _ q=>bn (T0 p.1 x q) fun q6=>some ((⟨w2,true,⟨q6.1⟩⟩:aL),q6.2)) (Hn hc hp t4 _) fun _ r5 s5 f5 t5=>?_
  exact oY.seq (K:=fun y q=>some ((⟨w2,true,⟨y⟩⟩:aL),q)) (TW t5 p.1 fun _=>hx) fun y r6 s6 f6 t6=>oY.pure t6 _
 refine⟨main,fun o r' ho=>?_⟩
 rw[<-e]at ho
 obtain⟨_,_,ho⟩:=cO ho
 obtain⟨_,_,ho⟩:=cO ho
 obtain⟨_,_,ho⟩:=cO ho
 obtain⟨_,_,ho⟩:=cO ho
 obtain⟨_,_,ho⟩:=cO ho
 obtain⟨_,_,ho⟩:=cO ho
 injection ho with ho
 injection ho with ho _
 subst ho
 exact hW2
theorem Ed:∃z,cW b 0 false=some z/\Wd 67 z.2.1.V/\(z.2.2.2≠6->cW c 0 l=some z):=by
 have t0:Tw b c l (R b ((0:Nat):Int) false 0) (R c ((0:Nat):Int) l 0):=Tw.both hp (Nat.zero_le _)
 obtain⟨n,r1,s1,a1,t1,k1⟩:=EF hc hp t0 1 4096
 obtain⟨m,r2,s2,a2,t2,k2⟩:=EF hc hp t1 0 0
 obtain⟨_,r3,s3,a3,t3,k3⟩:=Hn hc hp t2 [111,98,106]
 obtain⟨⟨v,r4,s4,a4,t4,k4⟩,hv⟩:=Ti hc hp t3
 obtain⟨⟨x,r5,s5,a5,t5,k5⟩,_⟩:=LO hc hp t4
 have a3':ax r2 ⟨[111,98,106]⟩=some r3:=by
  obtain⟨q,h1,h2⟩:=cO a3
  have h1:ax r2 ⟨[111,98,106]⟩=some q:=h1
  injection h2 with h2
  injection h2 with _ h2
  rw[h1,h2]
 have k3':r3.e_≠6->r2.e_≠6/\ax s2 ⟨[111,98,106]⟩=some s3:=fun h=>by
  obtain⟨h0,h⟩:=k3 h
  obtain⟨q,h1,h2⟩:=cO h
  have h1:ax s2 ⟨[111,98,106]⟩=some q:=h1
  injection h2 with h2
  injection h2 with _ h2
  exact⟨h0,by rw[h1,h2]⟩
 have tail:∀o(r6 s6:af),(Wd 67 o.V)->(if x=true then bn (bg r5 v) fun r11=>some (r11.1,r11.2)else some (aL.mk v false (bk.mk []),r5))=some (o,r6)->Tw b c l r6 s6->
  (r6.e_≠6->r5.e_≠6/\(if x=true then bn (bg s5 v) fun r11=>some (r11.1,r11.2)else some (aL.mk v false (bk.mk []),s5))=some (o,s6))->
  ∃z,cW b 0 false=some z/\Wd 67 z.2.1.V/\(z.2.2.2≠6->cW c 0 l=some z):=fun o r6 s6 hW f1 t6 f2=>by
  refine⟨if(r6.e_ !=0)=true then(0,o0,0,r6.e_)else(n,o,r6.az.at_,0),?_,?_,fun h6=>?_⟩
  ·unfold cW
   refine ag a1 (ag a2 (ag a3' (ag a4 (ag rfl (ey (a:=(o,r6)) (ag a5 f1) ?_)))))
   dsimp only
   split<;>rfl
  ·split
   ·exact Wd0
   ·exact hW
  ·have h6':r6.e_≠6:=fun h=>by rw[h]at h6;exact h6 rfl
   obtain⟨q5,f3⟩:=f2 h6'
   obtain⟨q4,b5⟩:=k5 q5
   obtain⟨q3,b4⟩:=k4 q4
   obtain⟨q2,b3⟩:=k3' q3
   obtain⟨q1,b2⟩:=k2 q2
   obtain⟨_,b1⟩:=k1 q1
   obtain⟨j,e,rfl,hj,t7⟩:=t6
   obtain⟨i,rfl,hi,t8⟩:=t7 h6'
   unfold cW
   refine ag b1 (ag b2 (ag b3 (ag b4 (ag rfl (ey (ag b5 f3) ?_)))))
   dsimp only
   by_cases he:e=0
   ·rw[if_neg (by rw[he];decide),if_neg (by rw[he];decide),t8 he]
   ·rw[if_pos (by simpa using he),if_pos (by simpa using he)]
 cases hxx:x with
 |false=>
  subst hxx
  exact tail _ r5 s5 (hv _ _ a4) rfl t5 fun h=>⟨h,rfl⟩
 |true=>
  subst hxx
  have hW:=hv _ _ a4
  obtain⟨⟨o,r6,s6,a6,t6,k6⟩,ho⟩:=Pa hc hp t5 hW
  have a6:bg r5 v=some (o,r6):=a6
  exact tail o r6 s6 (ho _ _ a6) (by rw[if_pos rfl,a6];rfl) t6 fun h=>by
   obtain⟨g1,g2⟩:=k6 h
   have g2:bg s5 v=some (o,s6):=g2
   exact⟨g1,by rw[if_pos rfl,g2];rfl⟩
end
end Fq
end Go.AB
end
