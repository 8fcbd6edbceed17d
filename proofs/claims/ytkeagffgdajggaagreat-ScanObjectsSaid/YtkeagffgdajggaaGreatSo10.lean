/- A part of the proof: Ab22, Ab22t. -/
import Derived.Test.YtkeagffgdajggaaGreatSo9
set_option linter.unusedSimpArgs false
set_option linter.unusedVariables false
section
namespace Go.AB
open Go
section
variable{P:Program}{G G':Gh}{n:Nat}{D:List Deferred}{σ σ':St}{a:Act}{w w':World}{ops:Array Oper}{iops:List aq}{q:Nat}
def mk:Nat→List aq→List AV→ri
 |k,o::l,v::vs=>(k,o,v)::mk (k+1) l vs
 |_,_,_=>[]
theorem Hv{K:St→Prop}:∀(q:Nat)(l:List aq)(σ:St)(k:Nat),q≤l.length→Ov P q l σ K→∃vs:List AV,vs.length=q∧vz P σ (mk k l vs)∧swp P (l.drop q) (fin σ (mk k l vs)) K
 |0,l,σ,k,_,h=>⟨[],rfl,by cases l<;>trivial,by cases l<;>exact h⟩
 |q+1,[],_,_,hl,_=>by simp at hl
 |q+1,o::l,σ,k,hl,h=>by
  obtain⟨hf,h1⟩:=h
  obtain⟨v,hv,hy,hk⟩:=Js h1
  obtain⟨vs,h2,h3,h4⟩:=Hv q l (step σ o v) (k+1) (by simpa using hl) hk
  exact⟨v::vs,by simp[h2],⟨hf,hv,hy,h3⟩,h4⟩
theorem Fj:∀(l:List aq)(vs:List AV)(k:Nat)(i:Nat)(o:aq)(v:AV),(i,o,v)∈mk k l vs→∃j,i=k+j∧j<vs.length∧l[j]? =some o
 |[],_,_,_,_,_,h=>by simp[mk]at h
 |_::_,[],_,_,_,_,h=>by simp[mk]at h
 |o'::l,v'::vs,k,i,o,v,h=>by
  rcases List.mem_cons.1 h with h|h
  ·injection h with h1 h2;injection h2 with h2 h3;subst h1;subst h2
   exact⟨0,rfl,by simp,rfl⟩
  ·obtain⟨j,h1,h2,h3⟩:=Fj l vs (k+1) i o v h
   exact⟨j+1,by omega,by simpa using h2,by simpa using h3⟩
theorem x4:∀(l:List aq)(vs:List AV)(k:Nat),(mk k l vs).Pairwise fun x y=>x.1<y.1
 |[],_,_=>by simp[mk]
 |_::_,[],_=>by simp[mk]
 |o::l,v::vs,k=>by
  refine List.Pairwise.cons (fun y hy=>?_) (x4 l vs (k+1))
  obtain⟨i,o',v'⟩:=y
  obtain⟨j,h1,_⟩:=Fj l vs (k+1) i o' v' hy
  show k<i
  omega
theorem I6:∀(l:List aq)(vs:List AV)(k j:Nat),j<vs.length→j<l.length→∃o v,(k+j,o,v)∈mk k l vs
 |[],_,_,_,_,h=>by simp at h
 |_::_,[],_,_,h,_=>by simp at h
 |o::l,v::vs,k,0,_,_=>⟨o,v,List.mem_cons_self⟩
 |o::l,v::vs,k,j+1,h1,h2=>by
  obtain⟨o',v',h⟩:=I6 l vs (k+1) j (by simpa using h1) (by simpa using h2)
  refine⟨o',v',List.mem_cons_of_mem _ ?_⟩
  rw[show k+(j+1)=k+1+j by omega]
  exact h
theorem fH:∀(l:List Oper)(l':List aq),cd P n ops l l'=true→l.length=l'.length∧∀(k:Nat)(o:Oper)(o':aq),l[k]? =some o→l'[k]? =some o'→gB P n ops o o'=true
 |[],[],_=>⟨rfl,fun k o o' h=>by simp at h⟩
 |o::l,o'::l',h=>by
  simp only[cd,Bool.and_eq_true]at h
  obtain⟨h1,h2⟩:=fH l l' h.2
  refine⟨by simp[h1],fun k x x' hx hx'=>?_⟩
  cases k with
  |zero=>simp at hx hx';subst hx;subst hx';exact h.1
  |succ k=>exact h2 k x x' (by simpa using hx) (by simpa using hx')
 |[],_::_,h=>by simp[cd]at h
 |_::_,[],h=>by simp[cd]at h
theorem nb{Q:Exit→Act→World→Prop}{i:Nat}{o:Oper}{next:Act→World→Prop}(ho:ops[i]? =some o)(h:wP P ops o a w next Q):wpOp P ops Q i next a w:=by
 unfold wpOp
 simp only[ho]
 exact h
theorem kO{j i:Nat}{o:Oper}(ho:ops[j]? =some o):gA ops j i=true↔∃e∈o.after,Region.binds .any e=true∧e.on=i:=by
 unfold gA
 rw[ho]
 show(o.after.any fun e=>Region.binds .any e&&e.on==i)=true↔_
 rw[Array.any_eq_true']
 simp only[Bool.and_eq_true,beq_iff_eq]
theorem vu{K:St→Prop}{Q:Exit→Act→World→Prop}(G₀:Gh)(w₀:World)(hc:cd P n ops ops.toList iops=true)
 (hn:∀G' σ' a' w',Inv G' n D σ' a' w'→aG G₀ w₀ G' w'→K σ'→Q .normal a' w'):∀(l:List aq)(k:Nat)(listed:Array Bool)(G:Gh)(σ:St)(a:Act)(w:World),l=iops.drop k→pI ops l.length k listed=true→
 swp P l σ K→Inv G n D σ a w→aG G₀ w₀ G w→wpAny P .any ops Q l.length listed a w
 |[],_,listed,G,σ,a,w,_,ht,hk,h,hp=>⟨List.isEmpty_iff.1 ht,hn G σ a w h hp hk⟩
 |o'::l,k,listed,G,σ,a,w,hl,ht,hk,h,hp=>by
  have ht':(Region.ready .any ops listed==[k]&&pI ops l.length (k+1) (listed.setIfInBounds k true))=true:=ht
  simp only[Bool.and_eq_true,beq_iff_eq]at ht'
  obtain⟨hr,ht'⟩:=ht'
  obtain⟨hlen,hget⟩:=fH _ _ hc
  have hk':iops[k]? =some o':=by
   have:(iops.drop k)[0]? =some o':=by rw[←hl];rfl
   simpa using this
  have hdrop:l=iops.drop (k+1):=by
   have:(iops.drop k).tail=l:=by rw[←hl];rfl
   rw[←this];simp
  have hklt:k<ops.toList.length:=by rw[hlen];exact(List.getElem?_eq_some_iff.1 hk').1
  have ho:ops.toList[k]? =some ops.toList[k]:=List.getElem?_eq_getElem hklt
  refine⟨fun h0=>absurd h0 (by rw[hr];simp),fun i hi=>?_⟩
  rw[hr]at hi
  have:i=k:=by simpa using hi
  subst this
  refine nb (by simp) (gl h (hget i _ _ ho hk') hk fun G' σ' a' w' h1 h2 h3=>?_)
  exact vu G₀ w₀ hc hn l (i+1) _ G' σ' a' w' hdrop ht' h3 h1 (hp.trans h2)
structure Good(ops:Array Oper)(iops:List aq)(q:Nat)(pend:ri)(listed:Array Bool):Prop where
 size:listed.size=ops.size
 un:∀k o v,(k,o,v)∈pend→k<q∧listed.getD k true=false∧iops[k]? =some o
 li:∀k,k<q→(∀o v,(k,o,v)∉pend)→listed.getD k false=true
 tl:∀j,q≤j→j<ops.size→listed.getD j true=false
 cl:∀m,m<q→listed.getD m false=true→∀i,gA ops m i=true→listed.getD i false=true
 sorted:pend.Pairwise fun x y=>x.1<y.1
theorem jH{l:Array Bool}{i:Nat}(h:l.getD i false=true):l.getD i true=true:=by
 rcases Nat.lt_or_ge i l.size with hi|hi
 ·simp[hi]at h⊢;exact h
 ·simp[Array.getElem?_eq_none hi]at h
theorem KB{listed:Array Bool}(hg:Good ops iops q [] listed):listed=oy ops.size q:=by
 apply Array.ext
 ·simp[oy,hg.size]
 ·intro i h1 h2
  simp only[oy,Array.getElem_map,Array.getElem_range]
  have hi:i<ops.size:=by rw[←hg.size];exact h1
  by_cases hq:i<q
  ·have:=hg.li i hq (fun o v=>by simp)
   simp[h1]at this
   simp[hq,this]
  ·have:=hg.tl i (by omega) hi
   simp[h1]at this
   simp[hq,this]
theorem jl{j:Nat}{listed:Array Bool}(h:j∈Region.ready .any ops listed):j<ops.size∧listed.getD j true=false∧∀i,gA ops j i=true→listed.getD i false=true:=by
 obtain⟨h0,o,ho,hall⟩:=mem_ready.1 h
 refine⟨(Array.getElem?_eq_some_iff.1 ho).1,h0,fun i hi=>?_⟩
 obtain⟨e,he,hb,hon⟩:=(kO ho).1 hi
 rw[←hon]
 exact hall e he hb
theorem DG{pre post:ri}{x:Nat×aq×AV}{listed:Array Bool}(hg:Good ops iops q (pre++x::post) listed)(hr:x.1∈Region.ready .any ops listed):Good ops iops q (pre++post) (listed.setIfInBounds x.1 true):=by
 obtain⟨xk,xo,xv⟩:=x
 obtain⟨r1,r2,r3⟩:=jl hr
 have hxq:xk<q:=(hg.un xk xo xv (by simp)).1
 have hxs:xk<listed.size:=by rw[hg.size];exact r1
 have hsub:∀y,y∈pre++post→y∈pre++(xk,xo,xv)::post:=fun y hy=>by
  rcases List.mem_append.1 hy with h|h
  ·exact List.mem_append_left _ h
  ·exact List.mem_append_right _ (List.mem_cons_of_mem _ h)
 have hsort:=List.pairwise_append.1 hg.sorted
 have hpre:∀y∈pre,y.1<xk:=fun y hy=>hsort.2.2 y hy (xk,xo,xv) List.mem_cons_self
 have hpost:∀y∈post,xk<y.1:=fun y hy=>(List.pairwise_cons.1 hsort.2.1).1 y hy
 have hne:∀y∈pre++post,y.1≠xk:=fun y hy=>by
  rcases List.mem_append.1 hy with h|h
  ·have:=hpre y h;omega
  ·have:=hpost y h;omega
 refine⟨by simp[hg.size],fun k o v hk=>?_,fun k hk hno=>?_,fun j h1 h2=>?_,fun m hm hl i hi=>?_,?_⟩
 ·obtain⟨u1,u2,u3⟩:=hg.un k o v (hsub _ hk)
  exact⟨u1,by rw[getD_set_ne true (Ne.symm (hne _ hk))];exact u2,u3⟩
 ·by_cases hkx:xk=k
  ·subst hkx;simp[hxs]
  ·rw[getD_set_ne false hkx]
   refine hg.li k hk fun o v hm=>?_
   rcases List.mem_append.1 hm with h|h
   ·exact hno o v (List.mem_append_left _ h)
   ·rcases List.mem_cons.1 h with h|h
    ·injection h with h;exact hkx h.symm
    ·exact hno o v (List.mem_append_right _ h)
 ·rw[getD_set_ne true (by omega)];exact hg.tl j h1 h2
 ·by_cases hmx:xk=m
  ·subst hmx;exact getD_set_true (r3 i hi)
  ·rw[getD_set_ne false hmx]at hl
   exact getD_set_true (hg.cl m hm hl i hi)
 ·rw[List.pairwise_append]
  exact⟨hsort.1,(List.pairwise_cons.1 hsort.2.1).2,fun y hy z hz=>hsort.2.2 y hy z (List.mem_cons_of_mem _ hz)⟩
theorem NV{Q:Exit→Act→World→Prop}(G₀:Gh)(w₀:World)(f:Nat)(hc:cd P n ops ops.toList iops=true)(hq:q≤ops.size)(h1:JQ ops q=true)(h2:Dx ops q=true)(h3:QF ops q iops=true)(h4:q<ops.size→Region.ready .any ops (oy ops.size q)=[q]):
 ∀(m:Nat)(pend:ri),pend.length=m→∀(listed:Array Bool)(σ:St),Good ops iops q pend listed→vz P σ pend→
  (∀G a w,Inv G n D (fin σ pend) a w→aG G₀ w₀ G w→wpAny P .any ops Q f (oy ops.size q) a w)→∀(G:Gh)(a:Act)(w:World),Inv G n D σ a w→aG G₀ w₀ G w→wpAny P .any ops Q (m+f) listed a w:=by
 intro m
 induction m with
 |zero=>
  intro pend hp listed σ hg _ hT G a w h hpr
  have:pend=[]:=List.eq_nil_of_length_eq_zero hp
  subst this
  rw[KB hg,Nat.zero_add]
  exact hT G a w h hpr
 |succ m ih=>
  intro pend hp listed σ hg hch hT G a w h hpr
  obtain⟨hlen,hget⟩:=fH _ _ hc
  rw[show m+1+f=(m+f)+1 by omega]
  refine⟨fun h0=>?_,fun i hi=>?_⟩
  ·
   cases pend with
   |nil=>simp at hp
   |cons x pend=>
    obtain⟨k,o,v⟩:=x
    obtain⟨u1,u2,u3⟩:=hg.un k o v List.mem_cons_self
    have hmem:k∈Region.ready .any ops listed:=by
     have hk:k<ops.size:=by omega
     refine mem_ready.2 ⟨u2,ops[k],Array.getElem?_eq_getElem hk,fun e he hb=>?_⟩
     have hs:=List.all_eq_true.1 h1 k (List.mem_range.2 u1)
     rw[Array.getElem?_eq_getElem hk]at hs
     have:=Array.all_eq_true_iff_forall_mem.1 hs e he
     rw[hb]at this
     have hlt:e.on<k:=by simpa using this
     refine hg.li e.on (by omega) fun o' v' hm=>?_
     rcases List.mem_cons.1 hm with hm|hm
     ·injection hm with hm;omega
     ·have:=(List.pairwise_cons.1 hg.sorted).1 _ hm
      simp at this
      omega
    rw[h0]at hmem
    cases hmem
  ·obtain⟨r1,r2,r3⟩:=jl hi
   have hne:∃k o v,(k,o,v)∈pend:=by
    cases pend with
    |nil=>simp at hp
    |cons x pend=>exact⟨x.1,x.2.1,x.2.2,List.mem_cons_self⟩
   have hiq:i<q:=by
    refine Classical.byContradiction fun hge=>?_
    have hqs:q<ops.size:=by omega
    by_cases hiq':i=q
    ·subst hiq'
     have hall:∀(d k:Nat),k<i→i -k=d→listed.getD k false=true:=by
      intro d
      induction d using Nat.strongRecOn with
      |_ d ihd=>
       intro k hk hd
       have hs:((List.range i).all fun k=>(List.range (i+1)).any fun m=>decide (k<m)&&gA ops m k)=true:=by
        unfold Dx at h2
        rw[Bool.or_eq_true]at h2
        rcases h2 with h2|h2
        ·have:=beq_iff_eq.1 h2;omega
        ·exact h2
       obtain⟨m',hm1,hm2⟩:=List.any_eq_true.1 (List.all_eq_true.1 hs k (List.mem_range.2 hk))
       rw[Bool.and_eq_true,decide_eq_true_eq]at hm2
       have hm1':=List.mem_range.1 hm1
       by_cases hmi:m'=i
       ·subst hmi;exact r3 k hm2.2
       ·exact hg.cl m' (by omega) (ihd (i -m') (by omega) m' (by omega) rfl) k hm2.2
     obtain⟨k,o,v,hk⟩:=hne
     obtain⟨u1,u2,u3⟩:=hg.un k o v hk
     have:=jH (hall _ k u1 rfl)
     rw[u2]at this
     cases this
    ·have hnr:i∉Region.ready .any ops (oy ops.size q):=by rw[h4 hqs];simpa using hiq'
     apply hnr
     refine mem_ready.2 ⟨?_,ops[i],Array.getElem?_eq_getElem r1,fun e he hb=>?_⟩
     ·simp[oy,r1];omega
     ·have hl:=r3 e.on ((kO (Array.getElem?_eq_getElem r1)).2 ⟨e,he,hb,rfl⟩)
      have hlt:e.on<q:=by
       refine Classical.byContradiction fun hnl=>?_
       by_cases hs:e.on<ops.size
       ·have:=hg.tl e.on (by omega) hs
        have:=jH hl
        simp_all
       ·have:listed.getD e.on false=false:=by simp[Array.getElem?_eq_none (show listed.size≤e.on by rw[hg.size];omega)]
        rw[this]at hl;cases hl
      simp[oy,show e.on<ops.size by omega,hlt]
   have hin:∃o v,(i,o,v)∈pend:=by
    apply Classical.byContradiction
    intro hno
    have:=hg.li i hiq fun o v hm=>hno ⟨o,v,hm⟩
    have:=jH this
    rw[r2]at this
    cases this
   obtain⟨o',v,hin⟩:=hin
   obtain⟨pre,post,rfl⟩:=List.append_of_mem hin
   have hsort:=List.pairwise_append.1 hg.sorted
   have hap:∀y∈pre,ap y.2.1 o'=true:=by
    intro y hy
    obtain⟨k,o,u⟩:=y
    have hlt:k<i:=hsort.2.2 _ hy _ List.mem_cons_self
    obtain⟨u1,u2,u3⟩:=hg.un k o u (List.mem_append_left _ hy)
    obtain⟨_,_,u4⟩:=hg.un i o' v (by simp)
    have hs:=List.all_eq_true.1 (List.all_eq_true.1 h3 i (List.mem_range.2 hiq)) k (List.mem_range.2 hlt)
    rw[Bool.or_eq_true]at hs
    rcases hs with hs|hs
    ·have:=jH (r3 k hs)
     rw[u2]at this
     cases this
    ·unfold Vt at hs
     rw[u3,u4]at hs
     exact hs
   obtain⟨p1,p2,p3,p4,p5⟩:=pull pre post σ hap hch
   obtain⟨_,_,u4⟩:=hg.un i o' v (by simp)
   have ho:ops.toList[i]? =some ops[i]:=by simp[r1]
   refine nb (o:=ops[i]) (by simp[r1]) (Y.run h (hget i _ _ ho u4) p3 fun G' a' w' k1 k2=>?_)
   exact ih (pre++post) (by simp at hp⊢;omega) _ (step σ o' v) (DG hg hi) p4 (fun G'' a'' w'' z1 z2=>hT G'' a'' w'' (z1.eqv p5) z2) G' a' w' k1 (hpr.trans k2)
theorem RY(hm:P.follows .mixedOrders=true):Qn P n:=by
 intro D draw id ops iops q G σ a w K Q hc hd h hw hn
 cases draw with
 |false=>exact wp_region_list (Ko G w hn q ops.toList iops G σ a w hc h (aG.refl G w) hw)
 |true=>
 have hd:=hd rfl
 simp only[JP,Bool.and_eq_true,decide_eq_true_eq]at hd
 obtain⟨hq,h1,h2,h3,h4⟩:=hd
 obtain⟨hlen,hget⟩:=fH _ _ hc
 have hsz:iops.length=ops.size:=by rw[←hlen];simp
 obtain⟨vs,e1,e2,e3⟩:=Hv q iops σ 0 (by omega) hw
 have hmk:(mk 0 iops vs).length=q:=by
  have:∀(l:List aq)(vs:List AV)(k:Nat),vs.length≤l.length→(mk k l vs).length=vs.length:=by
   intro l
   induction l with
   |nil=>intro vs k hl;cases vs with
    |nil=>rfl
    |cons=>simp at hl
   |cons o l ih=>intro vs k hl;cases vs with
    |nil=>rfl
    |cons v vs=>simp[mk,ih vs (k+1) (by simpa using hl)]
  rw[this iops vs 0 (by omega),e1]
 refine wp_region_any hm ?_
 have hrq:q<ops.size→Region.ready .any ops (oy ops.size q)=[q]:=by
  intro hlt
  obtain⟨d,hd⟩:∃d,ops.size -q=d+1:=⟨ops.size -q -1,by omega⟩
  rw[hd]at h4
  simp only[pI,Bool.and_eq_true,beq_iff_eq]at h4
  exact h4.1
 have hT:∀G' a' w',Inv G' n D (fin σ (mk 0 iops vs)) a' w'→aG G w G' w'→wpAny P .any ops Q (ops.size -q) (oy ops.size q) a' w':=by
  intro G' a' w' z1 z2
  have hl:(iops.drop q).length=ops.size -q:=by rw[List.length_drop];omega
  have:=vu G w hc hn (iops.drop q) q (oy ops.size q) G' _ a' w' rfl (by rw[hl];exact h4) e3 z1 z2
  rwa[hl]at this
 have hgood:Good ops iops q (mk 0 iops vs) (Array.replicate ops.size false):=by
  have hrep:∀k b,k<ops.size→(Array.replicate ops.size false).getD k b=false:=fun k b hk=>by simp[hk]
  refine⟨by simp,fun k o v hk=>?_,fun k hk hno=>?_,fun j _ hj=>hrep j _ hj,fun m hm hl i hi=>?_,x4 iops vs 0⟩
  ·obtain⟨j,j1,j2,j3⟩:=Fj iops vs 0 k o v hk
   have:k=j:=by omega
   subst this
   exact⟨by omega,hrep k _ (by omega),j3⟩
  ·obtain⟨o,v,hh⟩:=I6 iops vs 0 k (by omega) (by omega)
   rw[Nat.zero_add]at hh
   exact absurd hh (hno o v)
  ·rw[hrep m _ (by omega)]at hl;cases hl
 have:=NV (P:=P) (n:=n) (Q:=Q) G w (ops.size -q) hc hq h1 h2 h3 hrq q (mk 0 iops vs) hmk _ σ hgood e2 hT G a {w with drawn:=w.drawn+1} h.drew (aG.drew G w)
 rwa[show q+(ops.size -q)=ops.size by omega]at this
end
end Go.AB
end
section
namespace Go.AB
open Go
def jj(off:Nat):AV→AV
 |.loc cs=>.loc (match cs[off]? with|some (.sl _ sz n ds)=>setAt cs off [.sl false sz n ds]|_=>cs)
 |a=>a
def KU(o:aq)(σ:St):St:=match o.op with
 |.iT true x=>σ.drain x
 |.store _ _ x=>σ.drain x
 |.append _ _ x _=>σ.drain x
 |.lM off (.t i) _=>{σ with e:=(i,jj off (look σ.e i))::σ.e}
 |_=>σ
def dz(o:aq)(i:Nat)(a:AV):AV:=if fK o i=true then(match o.op with|.lM off _ _=>jj off a|_=>view a)else a
theorem CH(off:Nat)(a:AV):bA (jj off a)=bA a:=by cases a<;>rfl
theorem EK{off:Nat}{a:AV}{c:Nat}(h:bH (jj off a) c):bH a c:=by cases a<;>first|exact h|exact h.elim
theorem yX(off:Nat)(a:AV):view (jj off a)=jj off (view a):=by cases a<;>rfl
theorem tz(cs:List AV)(off:Nat)(x:AV)(h:off<cs.length)(j:Nat):(setAt cs off [x])[j]? =if j=off then some x else cs[j]? :=by
 unfold setAt
 rw[List.append_assoc]
 by_cases h1:j<off
 ·rw[List.getElem?_append_left (by simp;omega),if_neg (by omega),List.getElem?_take,if_pos h1]
 ·rw[List.getElem?_append_right (by simp;omega)]
  have hl:(cs.take off).length=off:=by simp;omega
  rw[hl]
  by_cases h2:j=off
  ·subst h2;simp
  ·rw[if_neg h2,List.getElem?_append_right (by simp;omega),List.getElem?_drop]
   congr 1
   simp
   omega
theorem mE(off:Nat)(cs:List AV)(j:Nat):(match cs[off]? with|some (.sl _ sz n ds)=>setAt cs off [.sl false sz n ds]|_=>cs)[j]? =if j=off then(cs[j]?).map (fun a=>match a with|.sl _ sz n ds=>.sl false sz n ds|a=>a)else cs[j]? :=by
 cases hc:cs[off]? with
 |none=>
  by_cases hj:j=off
  ·subst hj;simp[hc]
  ·simp[hj]
 |some a=>
  have hlt:=(List.getElem?_eq_some_iff.1 hc).1
  cases a<;>first
   |(show(setAt cs off _)[j]? =_
     rw[tz _ _ _ hlt]
     by_cases hj:j=off
     ·subst hj;simp[hc]
     ·simp[hj])
   |(show cs[j]? =_
     by_cases hj:j=off
     ·subst hj;simp[hc]
     ·simp[hj])
theorem Gt(o1 o2:Nat)(a:AV):jj o1 (jj o2 a)=jj o2 (jj o1 a):=by
 cases a<;>first|rfl|skip
 rename_i cs
 show AV.loc _=AV.loc _
 congr 1
 apply List.ext_getElem?
 intro j
 rw[mE,mE,mE,mE]
 by_cases h1:j=o1
 ·by_cases h2:j=o2
  ·simp only[eq_true h1,eq_true h2,if_true]
  ·simp only[eq_true h1,eq_false h2,if_true,if_false]
 ·by_cases h2:j=o2
  ·simp only[eq_false h1,eq_true h2,if_true,if_false]
  ·simp only[eq_false h1,eq_false h2,if_false]
def bU(σ:St)(o:aq)(v:AV):St:=(bV (KU o σ) v (pA o)).put (pA o) v
def KG(sz bytes:Nat)(v:AV):AV→AV→Prop
 |.sl true s n cs,.sl _ s' m ds=>s=sz∧(s'=sz∨m=0)∧(n+m)*bytes≤room∧v=.sl true sz (n+m) (cs++views ds)
 |.sl true s n cs,.str ds=>s=sz∧sz=1∧(n+ds.length)*bytes≤room∧v=.sl true sz (n+ds.length) (cs++ds.map fun c=>.int .u8 c.toNat)
 |_,_=>False
theorem RL{sz bytes:Nat}{σ:St}{x:IX}{d:Option Nat}{K:St→Prop}{a b:AV}(h:jD sz bytes σ x d K a b):∃v,KG sz bytes v a b∧K ((σ.drain x).put d v):=by
 unfold jD at h
 split at h
 ·obtain⟨h1,h2,h3,h4⟩:=h;exact⟨_,⟨h1,h2,h3,rfl⟩,h4⟩
 ·obtain⟨h1,h2,h3,h4⟩:=h;exact⟨_,⟨h1,h2,h3,rfl⟩,h4⟩
 ·exact h.elim
theorem RK{sz bytes:Nat}{σ:St}{x:IX}{d:Option Nat}{K:St→Prop}{a b v:AV}(h:KG sz bytes v a b)(hk:K ((σ.drain x).put d v)):jD sz bytes σ x d K a b:=by
 unfold KG at h
 split at h
 ·obtain⟨h1,h2,h3,h4⟩:=h;subst h4;exact⟨h1,h2,h3,hk⟩
 ·obtain⟨h1,h2,h3,h4⟩:=h;subst h4;exact⟨h1,h2,h3,hk⟩
 ·exact h.elim
theorem Ev{sz bytes:Nat}{a b v:AV}(h:KG sz bytes v a b):∃n cs,v=.sl true sz n cs:=by
 unfold KG at h
 split at h
 ·exact⟨_,_,h.2.2.2⟩
 ·exact⟨_,_,h.2.2.2⟩
 ·exact h.elim
inductive Y2(P:Program)(σ:St):aq→AV→Prop where
 |ez (o:aq) (v:AV) (h0:M0 o.op=false) (hf:bB σ o.dst=true) (hv:bA v=true) (h:Y P σ o v):Y2 P σ o v
 |TH (n c:Nat) (x:IX) (ez:List AV) (h0:look σ.e c=.loc ez) (h1:ez.length=n) (h2:c9 (σ.x x)=true) (h3:(bp (σ.x x)).length=n):Y2 P σ ⟨none,.store n (.t c) x,none⟩ (.loc (bp (σ.x x)))
 |RI (d:Nat) (z:List AV) (h0:bA (look σ.e d)=true) (h1:jL σ.lp (some d)=true):Y2 P σ ⟨some d,.aQ z,none⟩ (.loc z)
 |app (d sz bytes:Nat) (x y:IX) (v:AV) (h0:bA (look σ.e d)=true) (h1:KG sz bytes v (σ.x x) (σ.x y)):Y2 P σ ⟨some d,.append sz bytes x y,none⟩ v
 |SB (d off i:Nat) (x:IX) (cs:List AV) (o:Bool) (s m:Nat) (ds:List AV) (h0:bA (look σ.e d)=true) (h1:σ.x x=.lp i off) (h2:look σ.e i=.loc cs) (h3:cs[off]? =some (.sl o s m ds)) (h4:d≠i):Y2 P σ ⟨some d,.lM off (.t i) x,none⟩ (.sl o s m ds)
def MQ(o:aq):Option Nat:=match o with
 |⟨none,.store _ (.t c) _,none⟩=>some c
 |⟨some d,.aQ _,none⟩=>some d
 |_=>none
section
variable{P:Program}{G G':Gh}{n:Nat}{D:List Deferred}{σ σ':St}{a:Act}{w w':World}{T:List Nat}
theorem Kz{o:aq}(h:M0 o.op=false):pA o=o.dst:=by
 obtain⟨d,op,g⟩:=o
 cases op<;>first|(cases h;done)|(cases d<;>cases g<;>rfl)
theorem OK{o:aq}(h:M0 o.op=false):KU o σ=dr o σ:=by
 obtain⟨d,op,g⟩:=o
 cases op<;>first|(cases h;done)|rfl|skip
 rename_i b x
 cases b<;>rfl
theorem Ek{o:aq}{v:AV}(h:M0 o.op=false):bU σ o v=step σ o v:=by unfold bU step;rw[Kz h,OK h]
theorem FB{o:aq}{K:St→Prop}(h:q2 P o σ K):∃v,Y2 P σ o v∧K (bU σ o v):=by
 unfold q2 at h
 split at h
 ·rename_i m c x
  cases hl:look σ.e c<;>rw[hl]at h<;>first|(exact h.elim)|skip
  rename_i ez
  obtain⟨h1,h2,h3,h4⟩:=h
  exact⟨_,.TH m c x ez hl h1 h2 h3,h4⟩
 ·rename_i d z
  exact⟨_,.RI d z h.1 h.2.1,h.2.2⟩
 ·rename_i d sz bytes x y
  obtain⟨v,h1,h2⟩:=RL h.2
  refine⟨v,.app d sz bytes x y v h.1 h1,?_⟩
  obtain⟨m,cs,rfl⟩:=Ev h1
  exact h2
 ·rename_i d off i x
  obtain⟨k0,k1,k2⟩:=h
  have k1':∃i' o',σ.x x=.lp i' o'∧i'=i∧o'=off:=by
   unfold A7 at k1
   split at k1
   ·rename_i h1 h2
    injection h1 with h1
    rw[Bool.and_eq_true,beq_iff_eq,beq_iff_eq]at k1
    exact⟨_,_,h2,by rw[k1.1,h1],k1.2⟩
   ·cases k1
  obtain⟨i',o',e1,rfl,rfl⟩:=k1'
  rw[e1]at k2
  have k2:(match look σ.e i' with
   |.loc cs=>some d≠some i'∧Cu o' cs fun cs' a=>K ((σ.put (some i') (.loc cs')).put (some d) a)
   |_=>False):=k2
  cases hl:look σ.e i'<;>rw[hl]at k2<;>first|(exact k2.elim)|skip
  rename_i cs
  obtain⟨k3,k4⟩:=k2
  unfold Cu at k4
  split at k4
  ·rename_i o s m ds hc
   refine⟨.sl o s m ds,.SB d o' i' x cs o s m ds k0 e1 hl hc (fun e=>k3 (by rw[e])),?_⟩
   have e2:bU σ ⟨some d,.lM o' (.t i') x,none⟩ (.sl o s m ds)=(σ.put (some i') (.loc (setAt cs o' [.sl false s m ds]))).put (some d) (.sl o s m ds):=by
    unfold bU KU
    simp only[hl,jj,hc]
    rfl
   rw[e2];exact k4
  ·exact k4.elim
 ·exact h.elim
 ·exact h.elim
 ·exact h.elim
 ·exact h.elim
 ·rename_i h1 h2 h3 h3' h4 h5 h6 h7
  have h0:M0 o.op=false:=by
   obtain⟨d,op,g⟩:=o
   cases op<;>first|rfl|exact(h4 _ _ _ _ _ rfl).elim|exact(h5 _ _ _ rfl).elim|exact(h6 _ _ _ _ _ _ rfl).elim|exact(h7 _ _ _ _ _ rfl).elim
  obtain⟨v,q1,q2,q3⟩:=Js h.2
  exact⟨v,.ez o v h0 h.1 q1 q2,by rw[Ek h0];exact q3⟩
theorem sn(x:IX)(i:Nat):look (σ.drain x).e i=if(match x with|.t j=>j==i|.c _=>false)=true then view (look σ.e i)else look σ.e i:=by
 cases x with
 |c a=>rfl
 |t j=>
  show look ((j,view (look σ.e j))::σ.e) i=_
  rw[aP]
  by_cases hj:j=i
  ·subst hj;simp
  ·simp[hj]
theorem M1(o:aq)(i:Nat):look (KU o σ).e i=dz o i (look σ.e i):=by
 unfold dz
 obtain⟨d,op,g⟩:=o
 cases op<;>first|rfl|skip
 case iT b x=>
  cases b with
  |false=>rfl
  |true=>
   show look (σ.drain x).e i=_
   rw[sn]
   cases x<;>rfl
 case store m p x=>
  show look (σ.drain x).e i=_
  rw[sn]
  cases x<;>rfl
 case append sz bytes x y=>
  show look (σ.drain x).e i=_
  rw[sn]
  cases x<;>rfl
 case lM off j x=>
  cases j with
  |c a=>rfl
  |t j=>
   show look ((j,jj off (look σ.e j))::σ.e) i=if(j==i)=true then jj off (look σ.e i)else look σ.e i
   rw[aP]
   by_cases hj:j=i
   ·subst hj;simp
   ·simp[hj]
theorem EL(x:IX):(σ.drain x).s=σ.s∧(σ.drain x).lp=σ.lp:=by cases x<;>exact⟨rfl,rfl⟩
theorem QI(o:aq):(KU o σ).s=σ.s∧(KU o σ).lp=σ.lp:=by
 unfold KU
 split
 ·exact EL _
 ·exact EL _
 ·exact EL _
 ·exact⟨rfl,rfl⟩
 ·exact⟨rfl,rfl⟩
theorem dC(o:aq)(v:AV)(i:Nat):look (bU σ o v).e i=if pA o=some i then v else dz o i (look σ.e i):=by
 unfold bU
 rw[←M1]
 cases hd:pA o with
 |none=>simp[St.put,(hU (KU o σ) v none).1]
 |some d=>
  show look ((d,v)::(bV (KU o σ) v (some d)).e) i=_
  rw[aP,(hU (KU o σ) v (some d)).1]
  simp
theorem jT(o:aq)(v:AV):(bU σ o v).s=σ.s:=by
 unfold bU
 have:∀(τ:St)(d:Option Nat)(x:AV),(τ.put d x).s=τ.s:=fun τ d x=>by cases d<;>rfl
 rw[this,(hU (KU o σ) v (pA o)).2.1,(QI o).1]
theorem gO(o:aq)(v:AV)(x:Nat×Nat):x∈(bU σ o v).lp↔(x∈σ.lp∨∃i,pA o=some i∧x.1=i∧bH v x.2):=by
 have h1:(bU σ o v).lp=(bV (KU o σ) v (pA o)).lp:=by unfold bU;cases pA o<;>rfl
 rw[h1,←(QI (σ:=σ) o).2]
 exact Bx v (pA o) x
def uH(T:List Nat)(σ:St):Prop:=∀i c,c∈T→¬bH (look σ.e i) c
def xX(T:List Nat)(o:aq)(v:AV):Prop:=∀i,pA o=some i→∀c,c∈T→¬bH v c
def O0(T:List Nat)(o:aq):Prop:=∀c,MQ o=some c→c∈T
theorem Hc:∀{c:Nat}{a:AV},nE c a=true→¬bH a c
 |c,.lp t o,h=>fun(e:t=c)=>by
  subst e
  have h':(!Nat.beq t t)=true:=h
  rw[Nat.beq_refl]at h'
  cases h'
 |c,.when b a,h=>Hc (a:=a) h
 |_,.undef,_|_,.bool _,_|_,.int _ _,_|_,.str _,_|_,.dG,_|_,.ref _ _,_|_,.sp _,_|_,.loc _,_|_,.sl _ _ _ _,_|_,.arr _ _ _ _,_|_,.agg _,_|_,.gu _,_|_,.fn _ _ _,_|_,.nj,_|_,.mp _,_|_,.sq,_|_,.us _ _ _,_|_,.one,_|_,.l1 _,_|_,.jX,_|_,.bb _ _ _,_=>fun h=>h
theorem DZ:∀{T:List Nat}{a:AV},pV T a=true→∀c,c∈T→¬bH a c
 |c'::T,a,h,c,hc=>by
  have h':(nE c' a&&pV T a)=true:=h
  rw[Bool.and_eq_true]at h'
  rcases List.mem_cons.1 hc with rfl|hc
  ·exact Hc h'.1
  ·exact DZ h'.2 c hc
theorem mQ:∀{e:List (Nat×AV)},gq T e=true→∀i c,c∈T→¬bH (look e i) c
 |[],_,i,c,_=>fun h=>h
 |(j,a)::e,h,i,c,hc=>by
  have h':(pV T a&&gq T e)=true:=h
  rw[Bool.and_eq_true]at h'
  rw[aP]
  split
  ·exact DZ h'.1 c hc
  ·exact mQ h'.2 i c hc
theorem JD{v:AV}{c:Nat}(h:bH (view v) c):bH v c:=by cases v<;>first|exact h|exact h.elim
theorem Mw{o:aq}{i:Nat}{a:AV}{c:Nat}(h:bH (dz o i a) c):bH a c:=by
 unfold dz at h
 split at h
 ·split at h
  ·exact EK h
  ·exact JD h
 ·exact h
theorem KX(o:aq)(i:Nat)(a:AV):bA (dz o i a)=bA a:=by
 unfold dz
 split
 ·split
  ·exact CH _ _
  ·exact ss _
 ·rfl
theorem Dz{o:aq}{i:Nat}{a:AV}(h:¬fK o i=true):dz o i a=a:=if_neg h
theorem OM(x y:aq)(i:Nat)(a:AV):dz x i (dz y i a)=dz y i (dz x i a):=by
 unfold dz
 by_cases h1:fK x i=true<;>by_cases h2:fK y i=true<;>simp only[h1,h2,if_true,if_false,Bool.false_eq_true]
 split<;>split
 ·exact Gt _ _ _
 ·exact(yX _ _).symm
 ·exact yX _ _
 ·rfl
theorem FD(m off o:Nat)(a:AV):ka m off (jj o a)=ka m off a:=by
 cases a<;>first|rfl|skip
 rename_i cs
 have hv:views (match cs[o]? with|some (.sl _ sz n ds)=>setAt cs o [.sl false sz n ds]|_=>cs)=views cs:=by
  apply List.ext_getElem?
  intro j
  rw[eb,eb,mE]
  by_cases hj:j=o
  ·rw[if_pos hj]
   cases cs[j]? with
   |none=>rfl
   |some b=>cases b<;>rfl
  ·rw[if_neg hj]
 have hlen:(match cs[o]? with|some (.sl _ sz n ds)=>setAt cs o [.sl false sz n ds]|_=>cs).length=cs.length:=by
  have:=congrArg List.length hv
  simpa[views]using this
 show gZ m off _=gZ m off cs
 generalize(match cs[o]? with|some (.sl _ sz n ds)=>setAt cs o [.sl false sz n ds]|_=>cs)=cs' at hv hlen⊢
 unfold gZ
 rw[hlen]
 have hs:views (AB.sub cs' off m)=views (AB.sub cs off m):=by
  unfold AB.sub views
  unfold views at hv
  rw[List.map_take,List.map_drop,List.map_take,List.map_drop,hv]
 rw[hs]
theorem NK(m off:Nat)(o:aq)(i:Nat)(a:AV):ka m off (dz o i a)=ka m off a:=by
 unfold dz
 split
 ·split
  ·exact FD _ _ _ _
  ·exact BP ..
 ·rfl
theorem qf{o:aq}{v:AV}(h:uH T σ)(hs:xX T o v):uH T (bU σ o v):=fun i c hc=>by
 rw[dC]
 split
 ·rename_i ht;exact hs i ht c hc
 ·exact fun hh=>h i c hc (Mw hh)
theorem xY{o:aq}{v:AV}(h:uH T (bU σ o v)):xX T o v:=fun i hi c hc=>by
 have:=h i c hc
 rw[dC,if_pos hi]at this
 exact this
theorem NL{o:aq}{v:AV}(hy:Y2 P σ o v)(p:AV)(m:Nat)(hp:∀c,MQ o=some c→¬bH p c):rd (bU σ o v) p m=rd σ p m:=by
 cases p<;>try rfl
 ·rename_i b off
  show tK m off ((bU σ o v).s b)=tK m off (σ.s b)
  rw[jT]
 ·rename_i d off
  show ka m off (look (bU σ o v).e d)=ka m off (look σ.e d)
  rw[dC]
  by_cases hd:pA o=some d
  ·rw[if_pos hd]
   cases hy with
   |ez _ _ h0 hf hv h=>
    rw[Kz h0]at hd
    rw[hd]at hf
    rw[iV hv]
    exact(iV hf m off).symm
   |TH m' c x ez h0 h1 h2 h3=>
    have e:some c=some d:=hd
    injection e with e
    subst e
    exact(hp c rfl rfl).elim
   |RI d' z h0 h1=>
    have e:some d'=some d:=hd
    injection e with e
    subst e
    exact(hp d' rfl rfl).elim
   |app d' sz bytes x y _ h0 h1=>
    have e:some d'=some d:=hd
    injection e with e
    subst e
    obtain⟨k,cs,rfl⟩:=Ev h1
    rw[iV (av:=.sl true sz k cs) rfl]
    exact(iV h0 m off).symm
   |SB d' off' i x cs o s m' ds h0 h1 h2 h3 h4=>
    have e:some d'=some d:=hd
    injection e with e
    subst e
    rw[iV (av:=.sl o s m' ds) rfl]
    exact(iV h0 m off).symm
  ·rw[if_neg hd]
   exact NK ..
theorem VB{o:aq}(h:RQ o=true){a:AV}(ha:IX.c a∈cE o.op)(c:Nat):¬bH a c:=by
 have:=List.all_eq_true.1 h _ ha
 cases a<;>first|exact fun h=>h|(cases this;done)
theorem LN{g:Bool}:∀{a:AV}{c:Nat},bH (vy g a) c→bH a c:=by
 intro a c h
 cases a
 case when b a=>
  have h':bH (bif(b==g||b)&&inner a then a else AV.undef) c:=h
  cases hb:((b==g||b)&&inner a)<;>rw[hb]at h'
  ·exact h'.elim
  ·exact h'
 all_goals exact h
theorem Of{o:aq}(hc:RQ o=true)(h:uH T σ){x:IX}(hx:x∈cE o.op)(g:Bool){c:Nat}(ht:c∈T):¬bH (xg g σ x) c:=fun hh=>by
 have h':=LN hh
 cases x with
 |c a=>exact VB hc hx c h'
 |t i=>exact h i c ht h'
theorem sZ{o y:aq}{v:AV}(hy:Y2 P σ y v)(hn:ga (pA y) (ch o)=true)(hdr:yL y o=true)(hc:RQ o=true)(hN:uH T σ)(hT:O0 T y):F6 o σ (bU σ y v):=by
 have key:∀i,i∈ch o→look (bU σ y v).e i=look σ.e i:=by
  intro i hi
  have h1:¬fK y i=true:=by
   have:=List.all_eq_true.1 hdr i hi
   simpa using this
  rw[dC,if_neg,Dz h1]
  intro hd
  rw[hd]at hn
  simp[ga]at hn
  exact hn hi
 refine⟨fun x hx=>?_,fun t want hg=>?_,(jT y v).symm,fun x hx g m=>(NL hy _ m fun c hc'=>Of hc hN hx g (hT c hc')).symm⟩
 ·cases x with
  |c a=>rfl
  |t i=>exact(key i (List.mem_append_right _ (gw hx))).symm
 ·exact(key t (List.mem_append_left _ (by rw[hg];exact List.mem_cons_self))).symm
theorem Y2.HZ{o:aq}{v:AV}(hy:Y2 P σ o v)(h:F6 o σ σ')(hf:∀i,o.dst=some i→bA (look σ'.e i)=bA (look σ.e i))(hl:∀i,MQ o=some i→jL σ.lp (some i)=true→jL σ'.lp (some i)=true):Y2 P σ' o v:=by
 cases hy with
 |ez _ _ h0 hs hv h1=>
  refine .ez o v h0 ?_ hv (h1.HZ h)
  cases hd:o.dst with
  |none=>rfl
  |some i=>
   rw[hd]at hs
   show bA (look σ'.e i)=true
   rw[hf i hd];exact hs
 |TH m c x ez h0 h1 h2 h3=>
  have e1:look σ.e c=look σ'.e c:=h.xs (.t c) (by simp[cE])
  have e2:σ.x x=σ'.x x:=h.xs x (by simp[cE])
  rw[e2]at h2 h3⊢
  exact .TH m c x ez (by rw[←e1];exact h0) h1 h2 h3
 |RI d z h0 h1=>exact .RI d z (by rw[hf d rfl];exact h0) (hl d rfl h1)
 |app d sz bytes x y _ h0 h1=>
  have e1:σ.x x=σ'.x x:=h.xs x (by simp[cE])
  have e2:σ.x y=σ'.x y:=h.xs y (by simp[cE])
  exact .app d sz bytes x y v (by rw[hf d rfl];exact h0) (by rw[←e1,←e2];exact h1)
 |SB d off i x cs o s m ds h0 h1 h2 h3 h4=>
  have e1:σ.x x=σ'.x x:=h.xs x (by simp[cE])
  have e2:look σ.e i=look σ'.e i:=h.xs (.t i) (by simp[cE])
  exact .SB d off i x cs o s m ds (by rw[hf d rfl];exact h0) (by rw[←e1];exact h1) (by rw[←e2];exact h2) h3 h4
theorem j5.bU(h:j5 σ σ')(o:aq)(v:AV):j5 (AB.bU σ o v) (AB.bU σ' o v):=⟨fun i=>by rw[dC,dC,h.e],fun x=>by rw[gO,gO,h.lp],by rw[jT,jT,h.s]⟩
theorem lf{l l':List (Nat×Nat)}{i:Nat}(h:∀x∈l',x.2=i→x∈l)(hf:jL l (some i)=true):jL l' (some i)=true:=by
 refine List.all_eq_true.2 fun x hx=>?_
 cases hb:Nat.beq x.2 i with
 |false=>rfl
 |true=>
  have:=List.all_eq_true.1 hf x (h x hx (Nat.eq_of_beq_eq_true hb))
  rw[hb]at this
  cases this
theorem Y2.eqv{o:aq}{v:AV}(hy:Y2 P σ o v)(h:j5 σ σ'):Y2 P σ' o v:=hy.HZ (h.HZ o) (fun i _=>by rw[h.e]) fun i _ hf=>lf (fun x hx _=>(h.lp x).2 hx) hf
theorem Cp{x y:aq}{u v:AV}(hne:∀i j,pA x=some i→pA y=some j→i≠j)(hxy:∀i,pA y=some i→fK x i=false)(hyx:∀i,pA x=some i→fK y i=false):j5 (bU (bU σ x u) y v) (bU (bU σ y v) x u):=
 ⟨fun i=>by
   rw[dC,dC,dC,dC]
   by_cases h1:pA y=some i
   ·by_cases h2:pA x=some i
    ·exact absurd rfl (hne i i h2 h1)
    ·rw[if_pos h1,if_neg h2,if_pos h1,Dz (by rw[hxy i h1];decide)]
   ·by_cases h2:pA x=some i
    ·rw[if_neg h1,if_pos h2,if_pos h2,Dz (by rw[hyx i h2];decide)]
    ·rw[if_neg h1,if_neg h2,if_neg h2,if_neg h1]
     exact OM _ _ _ _,fun z=>by
   rw[gO,gO,gO,gO]
   constructor
   ·rintro((h|h)|h)
    ·exact .inl (.inl h)
    ·exact .inr h
    ·exact .inl (.inr h)
   ·rintro((h|h)|h)
    ·exact .inl (.inl h)
    ·exact .inr h
    ·exact .inl (.inr h),by rw[jT,jT,jT,jT]⟩
theorem LC{ez news:List AV}(h:news.length=ez.length):setAt ez 0 news=news:=by
 unfold setAt
 rw[List.take_zero,List.nil_append,Nat.zero_add,h,List.drop_length,List.append_nil]
theorem OW(d sz bytes:Nat)(x y:IX)(K:St→Prop):HQ P ⟨some d,.append sz bytes x y,none⟩ σ K=jD sz bytes σ x (some d) K (σ.x x) (σ.x y):=by
 rw[GJ,Jr]
 unfold Oo gH
 rfl
theorem Y2.run(h:Inv G n D σ a w){ops:Array Oper}{o:Oper}{o':aq}{v:AV}(hc:gB P n ops o o'=true)(hy:Y2 P σ o' v){next:Act→World→Prop}{Q:Exit→Act→World→Prop}
 (hn:∀G' a' w',Inv G' n D (bU σ o' v) a' w'→aG G w G' w'→next a' w'):wP P ops o a w next Q:=by
 have gen:HQ P o' σ (fun τ=>τ=bU σ o' v)→wP P ops o a w next Q:=fun hg=>gl h hc hg fun G' σ' a' w' h1 h2 h3=>by subst h3;exact hn G' a' w' h1 h2
 cases hy with
 |ez _ _ h0 _ _ h1=>exact h1.run h hc fun G' a' w' k1 k2=>hn G' a' w' (by rw[Ek h0];exact k1) k2
 |TH m c x ez h0 h1 h2 h3=>
  refine gen ?_
  show FX m σ (.t c) x none _ (σ.x x)
  refine⟨h2,h3,?_⟩
  have e:Dt (σ.drain x) (σ.x (.t c)) (.t c) (bp (σ.x x))=some ((σ.drain x).put (some c) (.loc (bp (σ.x x)))):=by
   have e1:σ.x (.t c)=.loc ez:=h0
   rw[e1]
   show Qj (σ.drain x) c (dQ 0 (bp (σ.x x)) ez)=_
   unfold dQ
   rw[decide_eq_true (by omega),LC (by omega)]
   rfl
  rw[e]
  rfl
 |RI d z h0 h1=>exact gen ⟨h1,rfl⟩
 |app d sz bytes x y _ h0 h1=>
  refine gen ?_
  rw[OW]
  refine RK (d:=some d) (x:=x) h1 ?_
  obtain⟨k,cs,rfl⟩:=Ev h1
  rfl
 |SB d off i x cs o s m ds h0 h1 h2 h3 h4=>
  refine gen ?_
  rw[GJ,Ly]
  show A7 (.t i) off (σ.x x)=true∧og σ (some d) _ (σ.x x)
  rw[h1]
  refine⟨by simp[A7],?_⟩
  show match look σ.e i with|.loc cs=>some d≠some i∧Cu off cs _|_=>False
  rw[h2]
  refine⟨fun e=>h4 (by injection e),?_⟩
  unfold Cu
  rw[h3]
  show(σ.put (some i) _).put (some d) _=_
  unfold bU KU
  simp only[h2,jj,h3]
  rfl
theorem Hu{ops:Array Oper}{Q:Exit→Act→World→Prop}{K:St→Prop}(G₀:Gh)(w₀:World)
 (hn:∀G' σ' a' w',Inv G' n D σ' a' w'→aG G₀ w₀ G' w'→K σ'→Q .normal a' w'):∀(q:Nat)(l:List Oper)(l':List aq)(G:Gh)(σ:St)(a:Act)(w:World),cd P n ops l l'=true→Inv G n D σ a w→aG G₀ w₀ G w→BO P T q l' σ K→wpList P ops Q l a w
 |0,l,l',G,σ,a,w,hc,h,hp,hk=>pz G₀ w₀ hn l l' G σ a w hc h hp hk
 |_+1,[],[],G,σ,a,w,_,h,hp,hk=>hn G σ a w h hp hk
 |q+1,o::l,o'::l',G,σ,a,w,hc,h,hp,hk=>by
  simp only[cd,Bool.and_eq_true]at hc
  obtain⟨v,hy,hk⟩:=FB hk
  show wP P ops o a w (wpList P ops Q l) Q
  exact hy.run h hc.1 fun G' a' w' h1 h2=>Hu G₀ w₀ hn q l l' G' _ a' w' hc.2 h1 (hp.trans h2) hk.2
 |_+1,[],_::_,_,_,_,_,hc,_,_,_=>by simp[cd]at hc
 |_+1,_::_,[],_,_,_,_,hc,_,_,_=>by simp[cd]at hc
def pC(P:Program)(T:List Nat):St→ri→Prop
 |_,[]=>True
 |σ,(_,o,v)::r=>Y2 P σ o v∧xX T o v∧O0 T o∧pC P T (bU σ o v) r
def GD:St→ri→St
 |σ,[]=>σ
 |σ,(_,o,v)::r=>GD (bU σ o v) r
theorem pC.eqv:∀{p:ri}{σ σ':St},j5 σ σ'→pC P T σ p→pC P T σ' p
 |[],_,_,_,_=>trivial
 |(_,o,v)::r,_,_,h,⟨h1,h2,h3,h4⟩=>⟨h1.eqv h,h2,h3,pC.eqv (h.bU o v) h4⟩
theorem GF:∀(p:ri){σ σ':St},j5 σ σ'→j5 (GD σ p) (GD σ' p)
 |[],_,_,h=>h
 |(_,o,v)::r,_,_,h=>GF r (h.bU o v)
theorem mF{o:aq}{i:Nat}(h:fK o i=true):i∈ch o:=by
 unfold fK at h
 split at h
 ·rename_i j hop
  have:j=i:=by simpa using h
  subst this
  refine List.mem_append_right _ ?_
  rw[hop];exact List.mem_cons_self
 ·rename_i m p j hop
  have:j=i:=by simpa using h
  subst this
  refine List.mem_append_right _ ?_
  rw[hop]
  cases p with
  |t k=>exact List.mem_cons_of_mem _ List.mem_cons_self
  |c k=>exact List.mem_cons_self
 ·rename_i sz bytes j y hop
  have:j=i:=by simpa using h
  subst this
  refine List.mem_append_right _ ?_
  rw[hop];exact List.mem_cons_self
 ·rename_i off j x hop
  have:j=i:=by simpa using h
  subst this
  refine List.mem_append_right _ ?_
  rw[hop];exact List.mem_cons_self
 ·cases h
theorem Gb{x y:aq}(h:Qr x y=true):ga (pA x) (ch y)=true∧ga (pA y) (ch x)=true∧(∀i j,pA x=some i→pA y=some j→i≠j)∧yL x y=true∧yL y x=true∧(∀i,pA y=some i→fK x i=false)∧(∀i,pA x=some i→fK y i=false)∧RQ x=true∧RQ y=true:=by
 unfold Qr at h
 simp only[Bool.and_eq_true]at h
 obtain⟨⟨⟨⟨⟨c1,c2⟩,d1,d2⟩,n1⟩,n2⟩,hm⟩:=h
 refine⟨n1,n2,fun i j hi hj=>?_,d1,d2,fun i hi=>?_,fun i hi=>?_,c1,c2⟩
 ·rw[hi,hj]at hm
  simpa using hm
 ·rw[hi]at n2
  simp[ga]at n2
  cases hd:fK x i with
  |false=>rfl
  |true=>exact absurd (mF hd) n2
 ·rw[hi]at n1
  simp[ga]at n1
  cases hd:fK y i with
  |false=>rfl
  |true=>exact absurd (mF hd) n1
theorem tg{o:aq}{i:Nat}(h:o.dst=some i):pA o=some i:=by
 obtain⟨d,op,g⟩:=o
 have h':d=some i:=h
 subst h'
 cases op<;>rfl
theorem jM{y:aq}{v:AV}{i:Nat}(h:pA y≠some i):bA (look (bU σ y v).e i)=bA (look σ.e i):=by
 rw[dC,if_neg h]
 exact KX _ _ _
theorem Q9{x:Nat×aq×AV}:∀(pre:ri)(post:ri)(σ:St),uH T σ→(∀y∈pre,Qr y.2.1 x.2.1=true)→pC P T σ (pre++x::post)→
 Y2 P σ x.2.1 x.2.2∧xX T x.2.1 x.2.2∧O0 T x.2.1∧pC P T (bU σ x.2.1 x.2.2) (pre++post)∧j5 (GD (bU σ x.2.1 x.2.2) (pre++post)) (GD σ (pre++x::post))
 |[],post,σ,_,_,h=>⟨h.1,h.2.1,h.2.2.1,h.2.2.2,j5.refl _⟩
 |(k,o,v)::pre,post,σ,hN,hap,h=>by
  obtain⟨h1,h2,h3,h4⟩:=h
  obtain⟨i1,i2,i3,i4,i5⟩:=Q9 pre post (bU σ o v) (qf hN h2) (fun y hy=>hap y (List.mem_cons_of_mem _ hy)) h4
  obtain⟨a1,a2,a3,a4,a5,a6,a7,c1,c2⟩:=Gb (hap (k,o,v) List.mem_cons_self)
  have hx:Y2 P σ x.2.1 x.2.2:=i1.HZ (sZ h1 a1 a4 c2 hN h3).symm
   (fun i hi=>(jM fun e=>a3 i i e (tg hi) rfl).symm)
   (fun i hi hf=>lf (fun z hz _=>(gO o v z).2 (.inl hz)) hf)
  have ho:Y2 P (bU σ x.2.1 x.2.2) o v:=h1.HZ (sZ hx a2 a5 c1 hN i3)
   (fun i hi=>jM fun e=>a3 i i (tg hi) e rfl)
   (fun i hi hf=>lf (fun z hz hzi=>by
     rcases(gO _ _ z).1 hz with hz|⟨j,j1,_,j3⟩
     ·exact hz
     ·rw[hzi]at j3;exact(i2 j j1 i (h3 i hi) j3).elim) hf)
  have hcomm:j5 (bU (bU σ o v) x.2.1 x.2.2) (bU (bU σ x.2.1 x.2.2) o v):=Cp a3 a6 a7
  refine⟨hx,i2,i3,⟨ho,h2,h3,i4.eqv hcomm⟩,?_⟩
  exact(GF (pre++post) hcomm.symm).trans i5
end
section
variable{P:Program}{G G':Gh}{n:Nat}{D:List Deferred}{σ σ':St}{a:Act}{w w':World}{ops:Array Oper}{iops:List aq}{q:Nat}{T:List Nat}
theorem KO{l:List aq}{o:aq}(h:Mj T iops q=true)(hl:l=iops.take q)(ho:o∈l):O0 T o:=fun c hc=>by
 subst hl
 have:=List.all_eq_true.1 h o ho
 unfold MQ at hc
 split at hc
 ·injection hc with hc;subst hc;simpa using this
 ·injection hc with hc;subst hc;simpa using this
 ·cases hc
theorem Ec{K:St→Prop}:∀(q:Nat)(l:List aq)(σ:St)(k:Nat),q≤l.length→(∀o∈l.take q,O0 T o)→BO P T q l σ K→∃vs:List AV,vs.length=q∧pC P T σ (mk k l vs)∧swp P (l.drop q) (GD σ (mk k l vs)) K
 |0,l,σ,k,_,_,h=>⟨[],rfl,by cases l<;>trivial,by cases l<;>exact h⟩
 |q+1,[],_,_,hl,_,_=>by simp at hl
 |q+1,o::l,σ,k,hl,hT,h=>by
  obtain⟨v,hy,hno,hk⟩:=FB (show q2 P o σ (fun τ=>gq T τ.e=true∧BO P T q l τ K) from h)
  obtain⟨vs,h2,h3,h4⟩:=Ec q l (bU σ o v) (k+1) (by simpa using hl) (fun o' ho'=>hT o' (by rw[List.take_succ_cons];exact List.mem_cons_of_mem _ ho')) hk
  exact⟨v::vs,by simp[h2],⟨hy,xY fun i c hc=>mQ hno i c hc,hT o (by rw[List.take_succ_cons];exact List.mem_cons_self),h3⟩,h4⟩
theorem LB{Q:Exit→Act→World→Prop}(G₀:Gh)(w₀:World)(f:Nat)(hc:cd P n ops ops.toList iops=true)(hq:q≤ops.size)(h1:JQ ops q=true)(h2:Dx ops q=true)(h3:Mk ops q iops=true)(h4:q<ops.size→Region.ready .any ops (oy ops.size q)=[q]):
 ∀(m:Nat)(pend:ri),pend.length=m→∀(listed:Array Bool)(σ:St),Good ops iops q pend listed→uH T σ→pC P T σ pend→
  (∀G a w,Inv G n D (GD σ pend) a w→aG G₀ w₀ G w→wpAny P .any ops Q f (oy ops.size q) a w)→∀(G:Gh)(a:Act)(w:World),Inv G n D σ a w→aG G₀ w₀ G w→wpAny P .any ops Q (m+f) listed a w:=by
 intro m
 induction m with
 |zero=>
  intro pend hp listed σ hg _ _ hT G a w h hpr
  have:pend=[]:=List.eq_nil_of_length_eq_zero hp
  subst this
  rw[KB hg,Nat.zero_add]
  exact hT G a w h hpr
 |succ m ih=>
  intro pend hp listed σ hg hNo hch hT G a w h hpr
  obtain⟨hlen,hget⟩:=fH _ _ hc
  rw[show m+1+f=(m+f)+1 by omega]
  refine⟨fun h0=>?_,fun i hi=>?_⟩
  ·
   cases pend with
   |nil=>simp at hp
   |cons x pend=>
    obtain⟨k,o,v⟩:=x
    obtain⟨u1,u2,u3⟩:=hg.un k o v List.mem_cons_self
    have hmem:k∈Region.ready .any ops listed:=by
     have hk:k<ops.size:=by omega
     refine mem_ready.2 ⟨u2,ops[k],Array.getElem?_eq_getElem hk,fun e he hb=>?_⟩
     have hs:=List.all_eq_true.1 h1 k (List.mem_range.2 u1)
     rw[Array.getElem?_eq_getElem hk]at hs
     have:=Array.all_eq_true_iff_forall_mem.1 hs e he
     rw[hb]at this
     have hlt:e.on<k:=by simpa using this
     refine hg.li e.on (by omega) fun o' v' hm=>?_
     rcases List.mem_cons.1 hm with hm|hm
     ·injection hm with hm;omega
     ·have:=(List.pairwise_cons.1 hg.sorted).1 _ hm
      simp at this
      omega
    rw[h0]at hmem
    cases hmem
  ·obtain⟨r1,r2,r3⟩:=jl hi
   have hne:∃k o v,(k,o,v)∈pend:=by
    cases pend with
    |nil=>simp at hp
    |cons x pend=>exact⟨x.1,x.2.1,x.2.2,List.mem_cons_self⟩
   have hiq:i<q:=by
    refine Classical.byContradiction fun hge=>?_
    have hqs:q<ops.size:=by omega
    by_cases hiq':i=q
    ·subst hiq'
     have hall:∀(d k:Nat),k<i→i -k=d→listed.getD k false=true:=by
      intro d
      induction d using Nat.strongRecOn with
      |_ d ihd=>
       intro k hk hd
       have hs:((List.range i).all fun k=>(List.range (i+1)).any fun m=>decide (k<m)&&gA ops m k)=true:=by
        unfold Dx at h2
        rw[Bool.or_eq_true]at h2
        rcases h2 with h2|h2
        ·have:=beq_iff_eq.1 h2;omega
        ·exact h2
       obtain⟨m',hm1,hm2⟩:=List.any_eq_true.1 (List.all_eq_true.1 hs k (List.mem_range.2 hk))
       rw[Bool.and_eq_true,decide_eq_true_eq]at hm2
       have hm1':=List.mem_range.1 hm1
       by_cases hmi:m'=i
       ·subst hmi;exact r3 k hm2.2
       ·exact hg.cl m' (by omega) (ihd (i -m') (by omega) m' (by omega) rfl) k hm2.2
     obtain⟨k,o,v,hk⟩:=hne
     obtain⟨u1,u2,u3⟩:=hg.un k o v hk
     have:=jH (hall _ k u1 rfl)
     rw[u2]at this
     cases this
    ·have hnr:i∉Region.ready .any ops (oy ops.size q):=by rw[h4 hqs];simpa using hiq'
     apply hnr
     refine mem_ready.2 ⟨?_,ops[i],Array.getElem?_eq_getElem r1,fun e he hb=>?_⟩
     ·simp[oy,r1];omega
     ·have hl:=r3 e.on ((kO (Array.getElem?_eq_getElem r1)).2 ⟨e,he,hb,rfl⟩)
      have hlt:e.on<q:=by
       refine Classical.byContradiction fun hnl=>?_
       by_cases hs:e.on<ops.size
       ·have:=hg.tl e.on (by omega) hs
        have:=jH hl
        simp_all
       ·have:listed.getD e.on false=false:=by simp[Array.getElem?_eq_none (show listed.size≤e.on by rw[hg.size];omega)]
        rw[this]at hl;cases hl
      simp[oy,show e.on<ops.size by omega,hlt]
   have hin:∃o v,(i,o,v)∈pend:=by
    apply Classical.byContradiction
    intro hno
    have:=hg.li i hiq fun o v hm=>hno ⟨o,v,hm⟩
    have:=jH this
    rw[r2]at this
    cases this
   obtain⟨o',v,hin⟩:=hin
   obtain⟨pre,post,rfl⟩:=List.append_of_mem hin
   have hsort:=List.pairwise_append.1 hg.sorted
   have hap:∀y∈pre,Qr y.2.1 o'=true:=by
    intro y hy
    obtain⟨k,o,u⟩:=y
    have hlt:k<i:=hsort.2.2 _ hy _ List.mem_cons_self
    obtain⟨u1,u2,u3⟩:=hg.un k o u (List.mem_append_left _ hy)
    obtain⟨_,_,u4⟩:=hg.un i o' v (by simp)
    have hs:=List.all_eq_true.1 (List.all_eq_true.1 h3 i (List.mem_range.2 hiq)) k (List.mem_range.2 hlt)
    rw[Bool.or_eq_true]at hs
    rcases hs with hs|hs
    ·have:=jH (r3 k hs)
     rw[u2]at this
     cases this
    ·unfold Qs at hs
     rw[u3,u4]at hs
     exact hs
   obtain⟨p1,p2,p3,p4,p5⟩:=Q9 pre post σ hNo hap hch
   obtain⟨_,_,u4⟩:=hg.un i o' v (by simp)
   have ho:ops.toList[i]? =some ops[i]:=by simp[r1]
   refine nb (o:=ops[i]) (by simp[r1]) (Y2.run h (hget i _ _ ho u4) p1 fun G' a' w' k1 k2=>?_)
   exact ih (pre++post) (by simp at hp⊢;omega) _ (bU σ o' v) (DG hg hi) (qf hNo p2) p4 (fun G'' a'' w'' z1 z2=>hT G'' a'' w'' (z1.eqv p5) z2) G' a' w' k1 (hpr.trans k2)
theorem RZ(hm:P.follows .mixedOrders=true):Qo P n:=by
 intro D draw id ops iops T q G σ a w K Q hc hd h hno hw hn
 cases draw with
 |false=>exact wp_region_list (Hu G w hn q ops.toList iops G σ a w hc h (aG.refl G w) hw)
 |true=>
 have hd:=hd rfl
 simp only[ED,Bool.and_eq_true,decide_eq_true_eq]at hd
 obtain⟨hq,h1,h2,h3,hl0,h4⟩:=hd
 obtain⟨hlen,hget⟩:=fH _ _ hc
 have hsz:iops.length=ops.size:=by rw[←hlen];simp
 obtain⟨vs,e1,e2,e3⟩:=Ec q iops σ 0 (by omega) (fun o ho=>KO hl0 rfl ho) hw
 have hmk:(mk 0 iops vs).length=q:=by
  have:∀(l:List aq)(vs:List AV)(k:Nat),vs.length≤l.length→(mk k l vs).length=vs.length:=by
   intro l
   induction l with
   |nil=>intro vs k hl;cases vs with
    |nil=>rfl
    |cons=>simp at hl
   |cons o l ih=>intro vs k hl;cases vs with
    |nil=>rfl
    |cons v vs=>simp[mk,ih vs (k+1) (by simpa using hl)]
  rw[this iops vs 0 (by omega),e1]
 refine wp_region_any hm ?_
 have hrq:q<ops.size→Region.ready .any ops (oy ops.size q)=[q]:=by
  intro hlt
  obtain⟨d,hd⟩:∃d,ops.size -q=d+1:=⟨ops.size -q -1,by omega⟩
  rw[hd]at h4
  simp only[pI,Bool.and_eq_true,beq_iff_eq]at h4
  exact h4.1
 have hT:∀G' a' w',Inv G' n D (GD σ (mk 0 iops vs)) a' w'→aG G w G' w'→wpAny P .any ops Q (ops.size -q) (oy ops.size q) a' w':=by
  intro G' a' w' z1 z2
  have hl:(iops.drop q).length=ops.size -q:=by rw[List.length_drop];omega
  have:=vu G w hc hn (iops.drop q) q (oy ops.size q) G' _ a' w' rfl (by rw[hl];exact h4) e3 z1 z2
  rwa[hl]at this
 have hgood:Good ops iops q (mk 0 iops vs) (Array.replicate ops.size false):=by
  have hrep:∀k b,k<ops.size→(Array.replicate ops.size false).getD k b=false:=fun k b hk=>by simp[hk]
  refine⟨by simp,fun k o v hk=>?_,fun k hk hno=>?_,fun j _ hj=>hrep j _ hj,fun m hm hl i hi=>?_,x4 iops vs 0⟩
  ·obtain⟨j,j1,j2,j3⟩:=Fj iops vs 0 k o v hk
   have:k=j:=by omega
   subst this
   exact⟨by omega,hrep k _ (by omega),j3⟩
  ·obtain⟨o,v,hh⟩:=I6 iops vs 0 k (by omega) (by omega)
   rw[Nat.zero_add]at hh
   exact absurd hh (hno o v)
  ·rw[hrep m _ (by omega)]at hl;cases hl
 have:=LB (T:=T) (P:=P) (n:=n) (Q:=Q) G w (ops.size -q) hc hq h1 h2 h3 hrq q (mk 0 iops vs) hmk _ σ hgood (fun i c hc=>mQ hno i c hc) e2 hT G a {w with drawn:=w.drawn+1} h.drew (aG.drew G w)
 rwa[show q+(ops.size -q)=ops.size by omega]at this
end
end Go.AB
end
