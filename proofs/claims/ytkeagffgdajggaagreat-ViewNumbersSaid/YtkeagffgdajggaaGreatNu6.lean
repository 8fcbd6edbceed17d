/- A part of the proof: Ab15m, Ab15n, Ab15p, Ab15q. -/
import Derived.Test.YtkeagffgdajggaaGreatNu5
import Derived.MapKept
import Derived.ChangeKeysEq
set_option linter.unusedSimpArgs false
set_option linter.unusedVariables false
section
namespace Go.AB
open Go Go.MapKept
def KV:k9->Value->Prop
 |.int k,v=>∃n,v=.int k n
 |.str,v=>∃s,v=.string s
 |.bool,v=>∃b,v=.bool b
 |.bytes n,v=>∃xs:Array Value,v=.agg xs/\xs.size=n/\∀u∈xs,∃m,u=.int .u8 m
section
variable{P:Program}{w:World}
structure Vc(P:Program)(kt:TypeId)(kk:k9):Prop where
 check:∀(w:World)(em:Bool)(v:Value),KV kk v->(Instr.checkKey em 10000 kt v).run P w=.ok () w
 find:∀(w:World)(x:Value),KV kk x->∀es:List MapEntry,(∀e∈es,KV kk e.key)->
  ((Instr.findKey kt x es).run P w=.ok none w/\∀e∈es,e.key≠x)\/∃j e,(Instr.findKey kt x es).run P w=.ok (some (j,e.val)) w/\es[j]? =some e/\e.key=x/\∀(i:Nat)(e':MapEntry),i<j->es[i]? =some e'->e'.key≠x
 stays:∀(w:World)(v:Value),KV kk v->(Instr.keyThatStays v v).run P w=.ok v w
theorem xI{d:TypeDesc}{k:Value}(hk:IsKey d k):∀(l:List MapEntry)(i:Nat),(∀x∈l,IsKey d x.key)->
 (Instr.findNow d k l i=some none/\∀x∈l,x.key≠k)\/∃j e,Instr.findNow d k l i=some (some (i+j,e.val))/\l[j]? =some e/\e.key=k/\∀(m:Nat)(e':MapEntry),m<j->l[m]? =some e'->e'.key≠k
 |[],_,_=>.inl ⟨rfl,by simp⟩
 |e::es,i,h=>by
  obtain⟨r,hr,BU⟩:=sameNow_of_keys hk (h e (.head _))
  cases r with
  |true=>exact .inr ⟨0,e,by simp[Instr.findNow,hr],rfl,(BU.1 rfl).symm,fun m e' hm=>by omega⟩
  |false=>
   have hne:e.key≠k:=fun q=>by have:=BU.2 q.symm;cases this
   rcases xI hk es (i+1) (fun x hx=>h x (.tail _ hx))with⟨h1,h2⟩|⟨j,e',h1,h2,h3,h4⟩
   ·exact .inl ⟨by simp[Instr.findNow,hr,h1],fun x hx=>by
     cases hx with
     |head=>exact hne
     |tail _ hx=>exact h2 x hx⟩
   ·refine .inr ⟨j+1,e',by simp[Instr.findNow,hr,h1];omega,by simpa using h2,h3,fun m x hm hx=>?_⟩
    cases m with
    |zero=>simp at hx;subst hx;exact hne
    |succ m=>exact h4 m x (by omega) (by simpa using hx)
theorem qL{kt:TypeId}{d:TypeDesc}{kk:k9}(hd:P.underlying kt=some d)(hK:∀v,KV kk v->IsKey d v):Vc P kt kk where
 check:=fun w em v hv=>run_checkKey hd (hK v hv) em 9999
 find:=fun w x hx es hes=>by
  rcases xI (hK x hx) es 0 (fun e he=>hK _ (hes e he))with⟨h1,h2⟩|⟨j,e,h1,h2,h3,h4⟩
  ·exact .inl ⟨run_findKey hd h1,h2⟩
  ·exact .inr ⟨j,e,by rw[run_findKey hd h1,Nat.zero_add],h2,h3,h4⟩
 stays:=fun w v hv=>run_keyThatStays (hK v hv)
theorem zG{e off:Nat}{i:TypeInfo}(he:P.underlying e=some (.int .u8))(hi:P.info? e=some i)(h1:i.size=1)(xs:Array Value)(x:Value)(hx:xs[off]? =some x)(w:World):(part e xs off).run P w=.ok x w:=by
 have hag:(isAgg e).run P w=.ok false w:=xl (multi:=false) (by unfold rm;rw[he];rfl) w
 simp[part,hag,hx]
theorem wv{e:TypeId}{i:TypeInfo}(he:P.underlying e=some (.int .u8))(hi:P.info? e=some i)(h1:i.size=1)(d:Nat)(xs ys:Array Value)(n:Nat)
 (hx:∀j,j<n->∃a b,xs[j]? =some (.int .u8 a)/\ys[j]? =some (.int .u8 b)):∀(l:List Nat),(∀j∈l,j<n)->∀w,
 ∃r:Bool,(Op.eqItems (d+1) e (P.cellsOf e) xs ys l).run P w=.ok r w/\(r=true↔∀j∈l,xs[j]? =ys[j]?)
 |[],_,w=>⟨true,by simp[Op.eqItems],by simp⟩
 |j::l,hl,w=>by
  obtain⟨a,b,ha,hb⟩:=hx j (hl j (.head _))
  have hc:P.cellsOf e=1:=by unfold Program.cellsOf;rw[hi];simpa using h1
  have e1:=zG he hi h1 xs _ ha w
  have e2:=zG he hi h1 ys _ hb w
  have e3:=run_equalIn_int (P:=P) w d e .u8 .u8 a b he
  obtain⟨r,hr,BU⟩:=wv he hi h1 d xs ys n hx l (fun j hj=>hl j (.tail _ hj)) w
  rw[hc]at hr
  by_cases hab:a=b
  ·subst hab
   refine⟨r,?_,?_⟩
   ·simp only[Op.eqItems,hc,Nat.mul_one,Sem.run_bind,e1,e2,e3,Result.andThen_ok,beq_self_eq_true,Bool.not_true,Bool.false_eq_true,if_false]
    exact hr
   ·rw[BU]
    simp[ha,hb]
  ·refine⟨false,?_,?_⟩
   ·have:(a==b)=false:=by simpa using hab
    simp[Op.eqItems,hc,e1,e2,e3,this]
   ·simp[ha,hb,hab]
theorem Eh{kt e:TypeId}{n:Nat}{i:TypeInfo}(hk:P.underlying kt=some (.array n e))(he:P.underlying e=some (.int .u8))(hi:P.info? e=some i)(h1:i.size=1){x y:Value}(hx:KV (.bytes n) x)(hy:KV (.bytes n) y)(w:World):
 ∃r:Bool,(Op.equal kt x y).run P w=.ok r w/\(r=true↔y=x):=by
 obtain⟨xs,rfl,hxs,hx'⟩:=hx
 obtain⟨ys,rfl,hys,hy'⟩:=hy
 have hxy:∀j,j<n->∃a b,xs[j]? =some (.int .u8 a)/\ys[j]? =some (.int .u8 b):=fun j hj=>by
  obtain⟨a,ha⟩:=hx' xs[j] (Array.getElem_mem _)
  obtain⟨b,hb⟩:=hy' ys[j] (Array.getElem_mem _)
  exact⟨a,b,by rw[Array.getElem?_eq_getElem (by omega),ha],by rw[Array.getElem?_eq_getElem (by omega),hb]⟩
 obtain⟨r,hr,BU⟩:=wv he hi h1 9997 xs ys n hxy (List.range n) (fun j hj=>List.mem_range.1 hj) w
 refine⟨r,?_,?_⟩
 ·show(Op.equalIn (9999+1) kt (.agg xs) (.agg ys)).run P w=_
  rw[run_equalIn_array w 9999 xs ys hk hi]
  obtain⟨r',hr',al0⟩:=wv he hi h1 9998 xs ys n hxy (List.range n) (fun j hj=>List.mem_range.1 hj) w
  have:r=r':=by cases r<;>cases r'<;>simp_all
  rw[this];exact hr'
 ·rw[BU]
  constructor
  ·intro h
   have:ys=xs:=by
    apply Array.ext (by omega)
    intro j h1 h2
    have:=h j (List.mem_range.2 (by omega))
    rw[Array.getElem?_eq_getElem (by omega),Array.getElem?_eq_getElem (by omega)]at this
    injection this with this;exact this.symm
   rw[this]
  ·intro h j _
   injection h with h
   rw[h]
theorem rv{kt e:TypeId}{n:Nat}{i:TypeInfo}(hk:P.underlying kt=some (.array n e))(he:P.underlying e=some (.int .u8))(hi:P.info? e=some i)(h1:i.size=1){k:Value}(hkv:KV (.bytes n) k):∀(l:List MapEntry)(i:Nat),(∀x∈l,KV (.bytes n) x.key)->∀w:World,
 ((Instr.findAsking kt k l i).run P w=.ok none w/\∀x∈l,x.key≠k)\/∃j e,(Instr.findAsking kt k l i).run P w=.ok (some (i+j,e.val)) w/\l[j]? =some e/\e.key=k/\∀(m:Nat)(e':MapEntry),m<j->l[m]? =some e'->e'.key≠k
 |[],_,_,w=>.inl ⟨by simp[Instr.findAsking],by simp⟩
 |x::es,i0,h,w=>by
  obtain⟨r,hr,BU⟩:=Eh hk he hi h1 hkv (h x (.head _)) w
  cases r with
  |true=>exact .inr ⟨0,x,by simp[Instr.findAsking,hr],rfl,BU.1 rfl,fun m e' hm=>by omega⟩
  |false=>
   have hne:x.key≠k:=fun q=>by have:=BU.2 q;cases this
   rcases rv hk he hi h1 hkv es (i0+1) (fun x hx=>h x (.tail _ hx)) w with⟨h1,h2⟩|⟨j,e',h1,h2,h3,h4⟩
   ·exact .inl ⟨by simp[Instr.findAsking,hr,h1],fun y hy=>by
     cases hy with
     |head=>exact hne
     |tail _ hy=>exact h2 y hy⟩
   ·refine .inr ⟨j+1,e',by simp[Instr.findAsking,hr,h1];omega,by simpa using h2,h3,fun m x hm hx=>?_⟩
    cases m with
    |zero=>simp at hx;subst hx;exact hne
    |succ m=>exact h4 m x (by omega) (by simpa using hx)
theorem FG{kt e:TypeId}{n:Nat}{i:TypeInfo}(hk:P.underlying kt=some (.array n e))(he:P.underlying e=some (.int .u8))(hi:P.info? e=some i)(h1:i.size=1){k:Value}(hkv:KV (.bytes n) k)(em:Bool)(w:World):(Instr.checkKey em 10000 kt k).run P w=.ok () w:=by
 obtain⟨xs,rfl,hxs,hx'⟩:=hkv
 show(Instr.checkKey em (9999+1) kt (.agg xs)).run P w=_
 unfold Instr.checkKey
 simp only[Sem.run_bind,run_underlying hk,Result.andThen_ok]
 have key:∀(l:List Nat),(∀j∈l,j<n)->∀w:World,(forIn (m:=Sem) l PUnit.unit fun i _=>do
  let a<-part e xs (i*(<-sizeOf e))
  Instr.checkKey em 9999 e a
  pure (ForInStep.yield PUnit.unit)).run P w=.ok PUnit.unit w:=by
  intro l
  induction l with
  |nil=>intro _ w;simp
  |cons j l ih=>
   intro hl w
   have hj:=hl j (.head _)
   obtain⟨a,ha⟩:=hx' xs[j] (Array.getElem_mem _)
   have e1:=zG he hi h1 xs (.int .u8 a) (off:=j) (by rw[Array.getElem?_eq_getElem (by omega),ha]) w
   have e2:(Instr.checkKey em (9998+1) e (.int .u8 a)).run P w=.ok () w:=run_checkKey (d:=.int .u8) (k:=.int .u8 a) he (show IsKey (.int .u8) (.int .u8 a) from rfl) em 9998
   have hs:c8 P e 1=true:=by unfold c8;rw[hi];simpa using h1
   rw[List.forIn_cons]
   simp only[Sem.run_bind,run_sizeOf hs w,Result.andThen_ok,Nat.mul_one,e1,e2,Sem.run_pure]
   exact ih (fun j hj=>hl j (.tail _ hj)) w
 simp only[Std.Legacy.Range.forIn_eq_forIn_range',Std.Legacy.Range.size,Nat.sub_zero,Nat.add_one_sub_one,Nat.div_one]
 rw[key (List.range' 0 n) (fun j hj=>by simp at hj;omega) w]
 simp
theorem KR{kt:TypeId}{kk:k9}(h:Ro P kt kk=true):Vc P kt kk:=by
 cases kk with
 |int k=>
  simp only[Ro]at h
  split at h<;>first|(cases h;done)|skip
  rename_i k' hk
  have:k=k':=by simpa[Ui]using h
  subst this
  exact qL hk fun v⟨n,e⟩=>by subst e;rfl
 |str=>
  simp only[Ro]at h
  split at h<;>first|(cases h;done)|skip
  rename_i hk
  exact qL hk fun v⟨n,e⟩=>by subst e;trivial
 |bool=>
  simp only[Ro]at h
  split at h<;>first|(cases h;done)|skip
  rename_i hk
  exact qL hk fun v⟨n,e⟩=>by subst e;trivial
 |bytes n=>
  simp only[Ro]at h
  split at h<;>first|(cases h;done)|skip
  rename_i m e hk
  simp only[Bool.and_eq_true,beq_iff_eq]at h
  obtain⟨⟨rfl,he⟩,hs⟩:=h
  split at he<;>first|(cases he;done)|skip
  rename_i he'
  have he:=he'
  unfold c8 at hs
  split at hs<;>first|(cases hs;done)|skip
  rename_i i hi
  have h1:i.size=1:=by simpa using hs
  refine⟨fun w em v hv=>FG hk he hi h1 hv em w,fun w x hx es hes=>?_,fun w v hv=>?_⟩
  ·obtain⟨xs,rfl,hx1,hx2⟩:=hx
   have b7:∀r,(Instr.findAsking kt (.agg xs) es).run P w=.ok r w->(∀e∈es,True)->((Instr.findNow (.array m e) (.agg xs) es 0=none)\/es=[])->(Instr.findKey kt (.agg xs) es).run P w=.ok r w:=by
    intro r hr _ hn
    rcases hn with hn|hn
    ·simp[Instr.findKey,run_underlying hk,hn,hr]
    ·subst hn
     simp[Instr.findAsking]at hr
     simp[Instr.findKey,run_underlying hk,Instr.findNow,hr]
   have hn:Instr.findNow (.array m e) (.agg xs) es 0=none\/es=[]:=by
    cases es with
    |nil=>exact .inr rfl
    |cons x l=>exact .inl (by simp[Instr.findNow,Instr.sameNow])
   rcases rv hk he hi h1 ⟨xs,rfl,hx1,hx2⟩ es 0 hes w with⟨q1,q2⟩|⟨j,e',q1,q2,q3,q4⟩
   ·exact .inl ⟨b7 _ q1 (fun _ _=>trivial) hn,q2⟩
   ·rw[Nat.zero_add]at q1
    exact .inr ⟨j,e',b7 _ q1 (fun _ _=>trivial) hn,q2,q3,q4⟩
  ·obtain⟨xs,rfl,hx1,hx2⟩:=hv
   have:Instr.sameBits 10000 (.agg xs) (.agg xs)=true:=by
    show Instr.sameBits (9999+1) (.agg xs) (.agg xs)=true
    unfold Instr.sameBits
    simp only[beq_self_eq_true,Bool.true_and,List.all_eq_true]
    intro p hp
    have h2:=List.of_mem_zip hp
    have h3:p.1=p.2:=by
     obtain⟨i,hi⟩:=List.mem_iff_getElem?.1 hp
     rw[List.getElem?_zip_eq_some]at hi
     rw[hi.1]at hi
     exact Option.some.inj hi.2
    obtain⟨mm,hm⟩:=hx2 p.1 (by simpa using h2.1)
    obtain⟨p1,p2⟩:=p
    simp only at h3 hm⊢
    subst h3;subst hm
    simp[Instr.sameBits]
   simp[Instr.keyThatStays,this]
theorem vJ{kk:k9}{a:AV}{v:Value}{R:Nat->Nat}(h:eX kk a=true)(hv:VR w R a v):KV kk v:=by
 unfold eX at h
 split at h
 ·rename_i k k' n
  have:k=k':=by simpa[Ui]using h
  subst this
  exact⟨n,VR.ct hv⟩
 ·exact⟨_,VR.eW hv⟩
 ·exact⟨_,VR.fZ hv⟩
 ·rename_i n cs
  simp only[Bool.and_eq_true,beq_iff_eq]at h
  obtain⟨vs,rfl,hs,hr,_⟩:=VR.sI hv
  refine⟨vs,rfl,by omega,fun u hu=>?_⟩
  obtain⟨i,hi⟩:=Array.mem_iff_getElem?.1 hu
  have hlt:i<cs.length:=by have:=(Array.getElem?_eq_some_iff.1 hi).1;omega
  have hc:=List.getElem?_eq_getElem hlt
  have h8:Gk cs[i]=true:=List.all_eq_true.1 h.2 _ (List.getElem_mem hlt)
  have hvr:=hr i _ u hc hi
  generalize cs[i]=c at h8 hvr
  unfold Gk at h8
  split at h8
  ·exact⟨_,VR.ct hvr⟩
  ·cases h8
 ·cases h
theorem KQ:∀(cs ds:List AV),cs.all Gk=true->ds.all Gk=true->(sN cs ds=true↔cs=ds)
 |[],[],_,_=>by simp[sN]
 |[],_::_,_,_=>by simp[sN]
 |_::_,[],_,_=>by simp[sN]
 |a::cs,b::ds,h1,h2=>by
  simp only[List.all_cons,Bool.and_eq_true]at h1 h2
  have ih:=KQ cs ds h1.2 h2.2
  have ha:=h1.1;have hb:=h2.1
  unfold Gk at ha hb
  split at ha<;>first|(cases ha;done)|skip
  split at hb<;>first|(cases hb;done)|skip
  simp[sN,WH,ih]
theorem Uk{kk:k9}{a b:AV}{x y:Value}{R:Nat->Nat}(ha:eX kk a=true)(hb:eX kk b=true)(hx:VR w R a x)(hy:VR w R b y):lK a b=true↔y=x:=by
 cases kk with
 |int k=>
  cases a<;>first|(simp[eX]at ha;done)|skip
  cases b<;>first|(simp[eX]at hb;done)|skip
  rename_i k1 n1 k2 n2
  have e1:k=k1:=by simpa[eX,Ui]using ha
  have e2:k=k2:=by simpa[eX,Ui]using hb
  subst e1;subst e2
  rw[VR.ct hx,VR.ct hy]
  show((n1==n2)&&true)=true↔_
  rw[Bool.and_true,beq_iff_eq]
  exact⟨fun h=>by rw[h],fun h=>by injection h with _ h;exact h.symm⟩
 |str=>
  cases a<;>first|(simp[eX]at ha;done)|skip
  cases b<;>first|(simp[eX]at hb;done)|skip
  rename_i s1 s2
  rw[VR.eW hx,VR.eW hy]
  show((s1==s2)&&true)=true↔_
  rw[Bool.and_true,beq_iff_eq]
  refine⟨fun h=>by rw[h],fun h=>?_⟩
  injection h with h
  have:s2.toArray=s1.toArray:=congrArg ByteArray.data h
  have:=congrArg Array.toList this
  simpa using this.symm
 |bool=>
  cases a<;>first|(simp[eX]at ha;done)|skip
  cases b<;>first|(simp[eX]at hb;done)|skip
  rename_i s1 s2
  rw[VR.fZ hx,VR.fZ hy]
  show((s1==s2)&&true)=true↔_
  rw[Bool.and_true,beq_iff_eq]
  exact⟨fun h=>by rw[h],fun h=>by injection h with h;exact h.symm⟩
 |bytes n=>
  cases a<;>first|(simp[eX]at ha;done)|skip
  cases b<;>first|(simp[eX]at hb;done)|skip
  rename_i cs ds
  simp only[eX,Bool.and_eq_true,beq_iff_eq]at ha hb
  show sN cs ds=true↔_
  rw[KQ cs ds ha.2 hb.2]
  obtain⟨vs,rfl,h1,h2,_⟩:=VR.sI hx
  obtain⟨us,rfl,k1,k2,_⟩:=VR.sI hy
  constructor
  ·intro e
   subst e
   congr 1
   apply Array.ext (by omega)
   intro j q1 q2
   have hlt:j<cs.length:=by omega
   have hc:=List.getElem?_eq_getElem hlt
   have r1:=h2 j _ vs[j] hc (Array.getElem?_eq_getElem q2)
   have r2:=k2 j _ us[j] hc (Array.getElem?_eq_getElem q1)
   have h8:Gk cs[j]=true:=List.all_eq_true.1 ha.2 _ (List.getElem_mem hlt)
   generalize cs[j]=c at h8 r1 r2
   unfold Gk at h8
   split at h8
   ·rw[VR.ct r1,VR.ct r2]
   ·cases h8
  ·intro e
   injection e with e
   subst e
   apply List.ext_getElem (by omega)
   intro j q1 q2
   have r1:=h2 j _ us[j] (List.getElem?_eq_getElem q1) (Array.getElem?_eq_getElem (by omega))
   have r2:=k2 j _ us[j] (List.getElem?_eq_getElem q2) (Array.getElem?_eq_getElem (by omega))
   have h8:Gk cs[j]=true:=List.all_eq_true.1 ha.2 _ (List.getElem_mem q1)
   have h9:Gk ds[j]=true:=List.all_eq_true.1 hb.2 _ (List.getElem_mem q2)
   generalize cs[j]=c at h8 r1⊢
   generalize ds[j]=d at h9 r2⊢
   unfold Gk at h8 h9
   split at h8<;>first|(cases h8;done)|skip
   split at h9<;>first|(cases h9;done)|skip
   have:=VR.ct r1
   rw[VR.ct r2]at this
   injection this with _ this
   rw[this]
end
end Go.AB
end
section
namespace Go.AB
open Go Go.MapKept
section
variable{P:Program}{G:Gh}{n:Nat}{D:List Deferred}{E:St}{a:Act}{w:World}
theorem BN{R:Nat->Nat}{kk:k9}{k:AV}{x:Value}(hk:eX kk k=true)(hx:VR w R k x):∀(es:List (AV×AV))(l:List MapEntry),l.length=es.length->
 (∀(j:Nat)(p:AV×AV)(y:MapEntry),es[j]? =some p->l[j]? =some y->VR w R p.1 y.key/\VR w R p.2 y.val)->kp kk es=true->
 ((∀e∈l,e.key≠x)->fc k es=none/\∀v,wg k v es=es++[(k,v)])/\
 (∀(j:Nat)(e:MapEntry),l[j]? =some e->e.key=x->(∀(i:Nat)(e':MapEntry),i<j->l[i]? =some e'->e'.key≠x)->∃p,es[j]? =some p/\fc k es=some p.2/\∀v,wg k v es=es.set j (k,v))
 |[],[],_,_,_=>⟨fun _=>⟨rfl,fun v=>rfl⟩,fun j e hj=>by simp at hj⟩
 |[],_::_,hl,_,_=>by simp at hl
 |_::_,[],hl,_,_=>by simp at hl
 |p::es,y::l,hl,hr,hks=>by
  have aha:eX kk p.1=true/\kp kk es=true:=by simpa[kp]using hks
  have h0:=(hr 0 p y rfl rfl).1
  have BU:=Uk hk aha.1 hx h0
  obtain⟨i1,i2⟩:=BN hk hx es l (by simpa using hl) (fun j q z hq hz=>hr (j+1) q z (by simpa using hq) (by simpa using hz)) aha.2
  constructor
  ·intro hne
   have hf:lK k p.1=false:=by
    cases hh:lK k p.1 with
    |false=>rfl
    |true=>exact absurd (BU.1 hh) (hne y (.head _))
   obtain⟨j1,j2⟩:=i1 fun e he=>hne e (.tail _ he)
   refine⟨by simp[fc,hf,j1],fun v=>by simp[wg,hf,j2 v]⟩
  ·intro j e hj hek L2
   cases j with
   |zero=>
    simp at hj;subst hj
    have hf:lK k p.1=true:=BU.2 hek
    exact⟨p,rfl,by simp[fc,hf],fun v=>by simp[wg,hf]⟩
   |succ j=>
    have hf:lK k p.1=false:=by
     cases hh:lK k p.1 with
     |false=>rfl
     |true=>exact absurd (BU.1 hh) (L2 0 y (by omega) rfl)
    obtain⟨q,q1,q2,q3⟩:=i2 j e (by simpa using hj) hek fun i e' hi he'=>L2 (i+1) e' (by omega) (by simpa using he')
    exact⟨q,by simpa using q1,by simp[fc,hf,q2],fun v=>by simp[wg,hf,q3 v]⟩
theorem Inv.PQ(h:Inv G n D E a w){d:Option Nat}(hd:bp n d=true){av:AV}{v:Value}(hi:dt av=true)(hv:VR w G.R av v):Inv G n D (E.put d (view av)) (a.put d v) w:=by
 have h2:NR G w E a (view av) v:=NR.view hi hv
 have:=h.put (s':=E.s) (lp':=E.lp) d (fun i hi=>by subst hi;simpa[bp]using hd) (view av) v h.aS (ax.refl G w) h.store (fun _ hx=>hx) (fun i t _ ht=>(eQ (lI hi) t ht).elim) (fun i t _⟨cs,hcs⟩=>(oM (lI hi) cs hcs).elim)
  (fun _ _ _ _=>⟨rfl,rfl,rfl⟩) (fun _ _ _ _ _ _ hcc=>⟨hcc,rfl,rfl⟩) (fun i hdi=>dg.A5 hi hv)
 cases d<;>exact this
theorem Inv.adS(h:Inv G n D E a w){d:Option Nat}(hd:bp n d=true){av:AV}{v:Value}(b:Bool)(hv:VR w G.R av v):Inv G n D (E.put d (.gw [view av,.bool b])) (a.put d (.tuple #[v,.bool b])) w:=by
 have:=h.put (s':=E.s) (lp':=E.lp) d (fun i hi=>by subst hi;simpa[bp]using hd) (.gw [view av,.bool b]) (.tuple #[v,.bool b]) h.aS (ax.refl G w) h.store (fun _ hx=>hx) (fun i t _ ht=>ht.elim) (fun i t _⟨cs,hcs⟩=>by cases hcs)
  (fun _ _ _ _=>⟨rfl,rfl,rfl⟩) (fun _ _ _ _ _ _ hcc=>⟨hcc,rfl,rfl⟩) (fun i hdi=>⟨_,rfl,rfl,fun j x y hx hy=>by
    match j with
    |0=>simp at hx hy;subst hx;subst hy;exact⟨hv.view,dm.view ..⟩
    |1=>simp at hx hy;subst hx;subst hy;exact⟨.bool b,trivial⟩
    |j+2=>simp at hx⟩)
 cases d<;>exact this
theorem BR.key{x:IX}{kk:k9}{av:AV}{v:Value}(hk:eX kk av=true)(h:BR G w E a x av v):VR w G.R av v:=by cases av<;>first|exact h|(cases kk<;>simp[eX]at hk)
theorem Sm{t:TypeId}{z:AV}(h:Sl P t z=true):∃v,(∀w:World,(zeroValue t).run P w=.ok v w)/\(∀(w:World)(R:Nat->Nat),VR w R z v)/\dt z=true:=by
 unfold Sl at h
 split at h<;>first|(cases h;done)|skip
 rename_i i hi
 split at h<;>first|(cases h;done)|skip
 rename_i v hv
 refine⟨v,fun w=>by simp[zeroValue,typeInfo,hi,hv],?_⟩
 split at h
 ·exact⟨fun w R=>Sv h w R,rfl⟩
 ·exact⟨fun w R=>uH h w R,Vr h⟩
theorem QY(h:Inv G n D E a w){op:Op}{ty:TypeId}{kk:k9}{z:AV}{ok:Bool}{x k:IX}{d:Option Nat}{K:St->Prop}(hd:bp n d=true)(hc:ao P op ty (.lookup kk z ok x k)=true)(hw:jf P (.lookup kk z ok x k) d E K):ri P G n D w a op ty d K:=by
 cases op<;>first|(simp[ao]at hc;done)|skip
 rename_i t y j ok'
 simp only[ao,Bool.and_eq_true,beq_iff_eq]at hc
 obtain⟨⟨⟨hy,hj⟩,rfl⟩,hc⟩:=hc
 split at hc<;>try(cases hc;done)
 rename_i kt et ht
 simp only[Bool.and_eq_true]at hc
 obtain⟨hkt,hz⟩:=hc
 have b7:=KR hkt
 obtain⟨zv,hz1,hz2,hz3⟩:=Sm hz
 have hb:=BR.aN h hy
 have hbk:=BR.aN h hj
 have hw':RR E d K (iT kk z ok E.s (xg true E k) (xg true E x)):=hw
 generalize xg true E x=xv at hb hw'
 generalize xg true E k=kv at hbk hw'
 have fin:∀(av:AV)(v:Value)(b:Bool),(ok=false->dt av=true)->VR w G.R av v->K (E.put d (ID ok av b))->view av=av->
  (∀(pos:String)(after:Array Edge)(g:Option (Nat×Bool)),(execOp a.eval ⟨d,.lookup t y j ok,ty,pos,after,g⟩).run P w=.ok (.value (if ok then .tuple #[v,.bool b]else v)) w)->ri P G n D w a (.lookup t y j ok) ty d K:=by
  intro av v b hi hvr hk hvw hr pos after g next Q hn
  refine aX (hr pos after g) (hn G _ _ _ ?_ (ax.refl G w) hk)
  cases ok with
  |true=>
   have:=h.adS hd b hvr
   rw[hvw]at this
   exact this
  |false=>
   have:=h.PQ hd (hi rfl) hvr
   rw[hvw]at this
   exact this
 have pl:∀{av:AV}{b:Bool},zx ok (ID ok av b)=true->ok=false->dt av=true:=by
  intro av b hp ho
  subst ho
  exact hp
 unfold iT at hw'
 split at hw'
 ·rename_i b
  have e1:a.eval y=.map (some b):=VR.Re hb
  unfold oJ at hw'
  split at hw'<;>try(exact hw'.elim)
  rename_i es hes
  unfold N9 at hw'
  cases hp:zx ok (vT z ok (fc kv es))with
  |false=>rw[hp]at hw';exact hw'.elim
  |true=>
  rw[hp]at hw'
  obtain⟨⟨hkk,hks⟩,hK⟩:=hw'
  have hvk:=hbk.key hkk
  have hkv:=vJ hkk hvk
  obtain⟨_,_,iu,clock,hh,hsz,DL⟩:=h.store b _ hes
  have eo:∀e∈iu.toList,KV kk e.key:=fun e he=>by
   obtain⟨i,hi⟩:=List.mem_iff_getElem?.1 he
   have hlt:i<es.length:=by rw[<-hsz];have:=(List.getElem?_eq_some_iff.1 hi).1;simpa using this
   have h1:=DL i _ e (List.getElem?_eq_getElem hlt) (by simpa using hi)
   exact vJ (List.all_eq_true.1 hks _ (List.getElem_mem hlt)) h1.1
  obtain⟨f1,f2⟩:=BN hkk hvk es iu.toList (by simpa using hsz) (fun j p y hp hy=>DL j p y hp (by simpa using hy)) hks
  have kg:=Go.MapKept.run_getObj_map (P:=P) hh
  have hck:=b7.check w iu.isEmpty _ hkv
  rcases b7.find w _ hkv iu.toList eo with⟨q1,q2⟩|⟨m,e,q1,q2,q3,q4⟩
  ·obtain⟨g1,_⟩:=f1 q2
   rw[g1]at hK hp
   refine fin (view z) zv false (pl hp) (hz2 w G.R).view hK (mT _) fun pos after g=>?_
   cases ok<;>simp[execOp,Instr.lookup,run_underlying ht,e1,kg,hck,q1,hz1]
  ·obtain⟨p,g1,g2,_⟩:=f2 m e q2 q3 q4
   rw[g2]at hK hp
   have hvr:=(DL m p e g1 (by simpa using q2)).2
   refine fin (view p.2) e.val true (pl hp) hvr.view hK (mT _) fun pos after g=>?_
   cases ok<;>simp[execOp,Instr.lookup,run_underlying ht,e1,kg,hck,q1]
 ·have e1:a.eval y=.map none:=VR.OT hb
  unfold N9 at hw'
  cases hp:zx ok (ID ok (view z) false)with
  |false=>rw[hp]at hw';exact hw'.elim
  |true=>
  rw[hp]at hw'
  obtain⟨hkk,hK⟩:=hw'
  have hkv:=vJ hkk (hbk.key hkk)
  have hck:=b7.check w true _ hkv
  refine fin (view z) zv false (pl hp) (hz2 w G.R).view hK (mT _) fun pos after g=>?_
  ·rcases b7.find w _ hkv [] (by simp)with⟨q1,_⟩|⟨m,e,_,q2,_⟩
   ·cases ok<;>simp[execOp,Instr.lookup,run_underlying ht,e1,hck,q1,hz1]
   ·simp at q2
 ·exact hw'.elim
theorem Inv.abZ(h:Inv G n D E a w){b:Nat}{iu tz:Array MapEntry}{clock qG:Nat}(hb:w.heap[b]? =some (.map iu clock))(ho:G.O b=.sh)(hR:G.R b=0){es':List (AV×AV)}
 (DL:tz.size=es'.length/\∀(j:Nat)(x:AV×AV)(y:MapEntry),es'[j]? =some x->tz[j]? =some y->agb G w x y):
 Inv G n D {E with s:=E.s.set b (.map es')} a {w with heap:=w.heap.setIfInBounds b (.map tz qG)}/\ax G w G {w with heap:=w.heap.setIfInBounds b (.map tz qG)}:=by
 obtain⟨hs1,hs2⟩:=heap_set (w:=w) (o':=.map tz qG) hb
 have dy:∀c k,({w with heap:=w.heap.setIfInBounds b (.map tz qG)}:World).cell? ⟨c,k,none⟩=w.cell? ⟨c,k,none⟩:=by
  intro c k
  by_cases hc:c=b
  ·subst hc
   unfold World.cell?
   simp only[hs1,hb]
  ·exact World.cell?_of_block (hs2 c hc)
 have hsz:({w with heap:=w.heap.setIfInBounds b (.map tz qG)}:World).heap.size=w.heap.size:=by simp
 have hp:ax G w G {w with heap:=w.heap.setIfInBounds b (.map tz qG)}:=⟨rfl,rfl,rfl,Nat.le_refl _,by rw[hsz];exact Nat.le_refl _,fun _ _=>Nat.le_refl _,fun c k _ _=>dy c k,fun c _ hc=>hs2 c (fun e=>by subst e;rw[ho]at hc;rcases hc with hc|hc<;>cases hc),fun _ _ h=>⟨h,rfl⟩,fun _ _ h=>⟨h,rfl⟩⟩
 have hne:∀c,G.O c≠.sh->({w with heap:=w.heap.setIfInBounds b (.map tz qG)}:World).heap[c]? =w.heap[c]? :=fun c hc=>hs2 c fun e=>hc (by rw[e];exact ho)
 refine⟨⟨⟨fun c hc=>h.aS.jM c (by rw[hsz]at hc;exact hc),fun c hc=>h.aS.jU c (by rw[hsz]at hc;exact hc)⟩,?_,h.size,fun i v hi=>?_,h.IT,h.Qs,h.ue⟩,hp⟩
 ·intro c o hc
  have hc':(if c=b then some (SO.map es')else E.s c)=some o:=hc
  by_cases hcb:c=b
  ·rw[if_pos hcb]at hc'
   injection hc' with hc'
   subst hcb;subst hc'
   exact⟨ho,hR,tz,qG,hs1,DL.1,fun j x y hx hy=>⟨hp.vr h.aS (DL.2 j x y hx hy).1,hp.vr h.aS (DL.2 j x y hx hy).2⟩⟩
  ·rw[if_neg hcb]at hc'
   obtain⟨r1,r2,r3⟩:=h.store c o hc'
   refine⟨r1,r2,?_⟩
   cases o with
   |cells cs=>
    obtain⟨c0,t0,k1,k2,k3⟩:=r3
    exact⟨c0,t0,(hs2 c hcb).trans k1,k2.mono (fun _ _ hv=>hp.vr h.aS hv) (fun c' j hc'=>⟨hc',rfl,hne c' (by rw[hc'];simp)⟩),k3⟩
   |map es=>
    obtain⟨e0,t0,k1,k2,k3⟩:=r3
    exact⟨e0,t0,(hs2 c hcb).trans k1,k2,fun j x y hx hy=>⟨hp.vr h.aS (k3 j x y hx hy).1,hp.vr h.aS (k3 j x y hx hy).2⟩⟩
 ·exact dg.frame (fun _ _ hv=>hp.vr h.aS hv) (fun c hc=>⟨rfl,rfl,hne c (by rcases hc with⟨j,hc⟩|hc<;>rw[hc]<;>simp)⟩) (fun c c' j _ hc=>⟨hc,rfl,hne c' (by rw[hc];simp)⟩) _ _ (fun d _ cs hcs=>⟨cs,hcs,rfl⟩) (h.ch i v hi)
theorem IV(h:Inv G n D E a w){op:Op}{ty:TypeId}{kk:k9}{x k v:IX}{d:Option Nat}{K:St->Prop}(hd:bp n d=true)(hc:ao P op ty (.mapUpdate kk x k v)=true)(hw:jf P (.mapUpdate kk x k v) d E K):ri P G n D w a op ty d K:=by
 cases op<;>first|(simp[ao]at hc;done)|skip
 rename_i t y j u
 simp only[ao,Bool.and_eq_true]at hc
 obtain⟨⟨⟨hy,hj⟩,hu⟩,hc⟩:=hc
 split at hc<;>try(cases hc;done)
 rename_i kt et ht
 have b7:=KR hc
 have hb:=BR.aN h hy
 have hbk:=BR.aN h hj
 have hbv:=BR.aN h hu
 have hw':xb kk E (xg true E k) (xg true E v) d K (xg true E x):=hw
 generalize xg true E x=xv at hb hw'
 generalize xg true E k=kv at hbk hw'
 generalize xg true E v=vv at hbv hw'
 unfold xb at hw'
 split at hw'<;>try(exact hw'.elim)
 rename_i b
 unfold U0 at hw'
 split at hw'<;>try(exact hw'.elim)
 rename_i es hes
 obtain⟨⟨hi,hkk,hks⟩,hK⟩:=hw'
 have e1:a.eval y=.map (some b):=VR.Re hb
 have hvv:VR w G.R vv (a.eval u):=by cases vv<;>first|exact hbv|(simp[dt]at hi)
 have hvk:=hbk.key hkk
 have hkv:=vJ hkk hvk
 obtain⟨ho,hR,iu,clock,hh,hsz,DL⟩:=h.store b _ hes
 have eo:∀e∈iu.toList,KV kk e.key:=fun e he=>by
  obtain⟨i,hi⟩:=List.mem_iff_getElem?.1 he
  have hlt:i<es.length:=by rw[<-hsz];have:=(List.getElem?_eq_some_iff.1 hi).1;simpa using this
  have h1:=DL i _ e (List.getElem?_eq_getElem hlt) (by simpa using hi)
  exact vJ (List.all_eq_true.1 hks _ (List.getElem_mem hlt)) h1.1
 have OR:eX kk (view kv)=true/\view kv=kv:=by cases kv<;>cases kk<;>simp_all [eX,view]
 rw[OR.2]at hK
 obtain⟨f1,f2⟩:=BN hkk hvk es iu.toList (by simpa using hsz) (fun j p y hp hy=>DL j p y hp (by simpa using hy)) hks
 have kg:=Go.MapKept.run_getObj_map (P:=P) hh
 have hck:=b7.check w false _ hkv
 have xx:∀(U:St)(w':World),Inv G n D U a w'->Inv G n D (U.put d (.gw [])) (a.put d undef) w':=by
  intro U w' hτ
  have:=hτ.put (s':=U.s) (lp':=U.lp) d (fun i hi=>by subst hi;simpa[bp]using hd) (.gw []) undef hτ.aS (ax.refl G w') hτ.store (fun _ hx=>hx) (fun i t _ ht=>ht.elim) (fun i t _⟨cs,hcs⟩=>by cases hcs)
   (fun _ _ _ _=>⟨rfl,rfl,rfl⟩) (fun _ _ _ _ _ _ hcc=>⟨hcc,rfl,rfl⟩) (fun i hdi=>⟨#[],rfl,rfl,fun j x y hx=>by simp at hx⟩)
  cases d<;>exact this
 intro pos after gd next Q hn
 rcases b7.find w _ hkv iu.toList eo with⟨q1,q2⟩|⟨m,e,q1,q2,q3,q4⟩
 ·obtain⟨_,g2⟩:=f1 q2
  rw[g2]at hK
  obtain⟨h1,h2⟩:=h.abZ (qG:=clock+1) (tz:=iu.push {key:=a.eval j,val:=a.eval u,born:=clock}) (es':=es++[(kv,view vv)]) hh ho hR ⟨by simp[hsz],fun i p z hp hz=>by
   rw[Array.getElem?_push]at hz
   by_cases hi':i=es.length
   ·subst hi'
    rw[if_pos hsz.symm]at hz
    simp at hp
    injection hz with hz
    subst hp;subst hz
    exact⟨hvk,hvv.view⟩
   ·rw[if_neg (by omega)]at hz
    have hlt:i<es.length:=by
     have:=(List.getElem?_eq_some_iff.1 hp).1
     simp at this;omega
    rw[List.getElem?_append_left hlt]at hp
    exact DL i p z hp hz⟩
  refine sm (w':=_) ?_ (hn G _ _ _ (xx _ _ h1) h2 hK)
  simp[execOp,Instr.mapUpdate,run_underlying ht,e1,kg,hck,q1,run_setObj_map _ hh]
 ·obtain⟨p,g1,_,g2⟩:=f2 m e q2 q3 q4
  rw[g2]at hK
  have amr:m<iu.size:=by have:=(List.getElem?_eq_some_iff.1 q2).1;simpa using this
  have hem:iu[m]? =some e:=by simpa using q2
  have hst:=b7.stays w _ hkv
  obtain⟨h1,h2⟩:=h.abZ (qG:=clock) (tz:=iu.modify m fun e=>{e with key:=a.eval j,val:=a.eval u}) (es':=es.set m (kv,view vv)) hh ho hR ⟨by simp[hsz],fun i p z hp hz=>by
   rw[Array.getElem?_modify]at hz
   by_cases hi':m=i
   ·subst hi'
    rw[if_pos rfl,hem]at hz
    simp at hz
    rw[List.getElem?_set_self (by omega)]at hp
    injection hp with hp
    subst hp;subst hz
    exact⟨hvk,hvv.view⟩
   ·rw[if_neg hi']at hz
    rw[List.getElem?_set_ne hi']at hp
    exact DL i p z hp hz⟩
  refine sm (w':=_) ?_ (hn G _ _ _ (xx _ _ h1) h2 hK)
  simp[execOp,Instr.mapUpdate,run_underlying ht,e1,kg,hck,q1,hem,q3,hst,run_setObj_map _ hh]
theorem QW(h:Inv G n D E a w){op:Op}{ty:TypeId}{x:IX}{d:Option Nat}{K:St->Prop}(hd:bp n d=true)(hc:ao P op ty (.kc x)=true)(hw:jf P (.kc x) d E K):ri P G n D w a op ty d K:=by
 cases op<;>first|(simp[ao]at hc;done)|skip
 rename_i s t y
 cases x with
 |c _=>simp[ao]at hc
 |t i=>
 simp only[ao,Bool.and_eq_true,beq_iff_eq]at hc
 obtain⟨⟨hy,rfl⟩,hc⟩:=hc
 split at hc<;>try(cases hc;done)
 rename_i e ht
 split at hc<;>try(cases hc;done)
 rename_i he
 have hw':RR E d K (Eg (xg true E (.t i))):=hw
 have eI:∃m x0 cs cs',cs=.int .u8 x0::cs'/\xg true E (.t i)=.sl true 1 (m+1) cs/\K (E.put d (.sl false 1 (m+1) cs)):=by
  generalize xg true E (.t i)=xv at hw'
  unfold Eg at hw'
  split at hw'
  ·exact⟨_,_,_,_,rfl,rfl,hw'⟩
  ·exact hw'.elim
 obtain⟨m,x0,cs,cs',hcs,hx,hK⟩:=eI
 have hx':look E.e i=.sl true 1 (m+1) cs\/look E.e i=.when true (.sl true 1 (m+1) cs):=by
  have hx2:zP true (look E.e i)=.sl true 1 (m+1) cs:=hx
  generalize look E.e i=av at hx2
  cases av<;>first|exact .inl hx2|skip
  rename_i b a'
  have hx2:(bif(b==true||b)&&inner a' then a' else .undef)=.sl true 1 (m+1) cs:=hx2
  cases b with
  |false=>simp at hx2
  |true=>
   refine .inr ?_
   cases hin:inner a' with
   |false=>rw[hin]at hx2;simp at hx2
   |true=>rw[hin]at hx2;simp at hx2;rw[hx2]
 have hin:i<n:=h.PB (fun e=>by rcases hx' with h'|h'<;>rw[h']at e<;>cases e)
 have hey:a.tmps[i]? =some (a.eval y):=by
  have hyy:y=.tmp i:=by
   cases y<;>simp[bJ]at hy
   rw[hy]
  subst hyy
  exact iE (by rw[h.size];exact hin)
 have hsl:VR w G.R (.sl true 1 (m+1) cs) (a.eval y)/\dm G w (.slot i 0) (.sl true 1 (m+1) cs) (a.eval y):=by
  have hs:=h.ch i _ hey
  rcases hx' with h'|h'<;>rw[h']at hs
  ·exact hs
  ·exact hs.1 rfl
 obtain⟨hvr,ug⟩:=hsl
 rcases VR.hZ hvr with⟨_,hm0,_⟩|⟨b0,adN,agv,e1,hl,hR,gZ,hat⟩
 ·omega
 obtain⟨b,off,c,et,fz,q1,q2,q3,q4,q5,q6⟩:=ug _ _ _ e1 (.inr (by omega))
 injection q1 with q1;injection q1 with q1 q1' _
 subst q1;subst q1'
 let fz':Nat×Nat:=if fz.1==fz.2 then(c.size,c.size+1)else(min fz.1 c.size,max fz.2 (c.size+1))
 let w':World:=w.freeze ⟨b0,c.size,none⟩ 1
 have hlt:b0<w.heap.size:=(Array.getElem?_eq_some_iff.1 q4).1
 have hb0:w'.heap[b0]? =some (.cells c et fz'):=by
  show(w.freeze ⟨b0,c.size,none⟩ 1).heap[b0]? =_
  unfold World.freeze
  simp only[Nat.succ_ne_self,if_false,Array.getElem?_modify,if_true,q4,Option.map_some]
  rfl
 have L3:∀k,k≠b0->w'.heap[k]? =w.heap[k]? :=by
  intro k hk
  show(w.freeze ⟨b0,c.size,none⟩ 1).heap[k]? =_
  unfold World.freeze
  simp only[Nat.succ_ne_self,if_false,Array.getElem?_modify]
  rw[if_neg (Ne.symm hk)]
 have hsz:w'.heap.size=w.heap.size:=by
  show(w.freeze ⟨b0,c.size,none⟩ 1).heap.size=_
  unfold World.freeze
  simp
 have dy:∀b k,w'.cell? ⟨b,k,none⟩=w.cell? ⟨b,k,none⟩:=by
  intro k j
  by_cases hk:k=b0
  ·subst hk
   unfold World.cell?
   simp only[hb0,q4]
  ·exact World.cell?_of_block (L3 k hk)
 have hfz:∀k,k<c.size->¬(fz'.1<=k/\k<fz'.2):=by
  intro k hk
  show¬((if fz.1==fz.2 then(c.size,c.size+1)else(min fz.1 c.size,max fz.2 (c.size+1)):Nat×Nat).1<=k/\k<(if fz.1==fz.2 then(c.size,c.size+1)else(min fz.1 c.size,max fz.2 (c.size+1)):Nat×Nat).2)
  by_cases hf:fz.1=fz.2
  ·simp only[hf,beq_self_eq_true,if_true];omega
  ·have:(fz.1==fz.2)=false:=by simpa using hf
   rw[this]
   simp only[Bool.false_eq_true,if_false]
   intro hh
   have q7:=q6.2
   by_cases hc2:fz.1<c.size
   ·exact q6.1 fz.1 hc2 ⟨Nat.le_refl _,by omega⟩
   ·omega
 have akP:fz'.1<=fz'.2:=by
  show(if fz.1==fz.2 then(c.size,c.size+1)else(min fz.1 c.size,max fz.2 (c.size+1)):Nat×Nat).1<=(if fz.1==fz.2 then(c.size,c.size+1)else(min fz.1 c.size,max fz.2 (c.size+1)):Nat×Nat).2
  split
  ·show c.size<=c.size+1;omega
  ·show min fz.1 c.size<=max fz.2 (c.size+1);omega
 have hp:ax G w G w':=⟨rfl,rfl,rfl,Nat.le_refl _,by rw[hsz];exact Nat.le_refl _,fun _ _=>Nat.le_refl _,fun b k _ _=>dy b k,fun b _ hb=>L3 b (fun e=>by subst e;rw[q2]at hb;rcases hb with hb|hb<;>cases hb),fun _ _ h=>⟨h,rfl⟩,fun _ _ h=>⟨h,rfl⟩⟩
 have hne:∀k,G.O k≠.slot i 0->w'.heap[k]? =w.heap[k]? :=fun k hk=>L3 k fun e=>hk (by rw[e];exact q2)
 have hI:Inv G n D E a w':=by
  refine⟨⟨fun c hc=>h.aS.jM c (by rw[hsz]at hc;exact hc),fun c hc=>h.aS.jU c (by rw[hsz]at hc;exact hc)⟩,?_,h.size,fun k v hk=>?_,h.IT,h.Qs,h.ue⟩
  ·exact h.store.mono h.aS hp (fun b hb=>⟨hb,rfl,hne b (by rw[hb];simp)⟩) (fun b c j _ hc=>⟨hc,rfl,hne c (by rw[hc];simp)⟩)
  ·by_cases hki:k=i
   ·subst hki
    have hv:v=a.eval y:=by rw[hey]at hk;exact(Option.some.inj hk).symm
    subst hv
    have hO:dm G w' (.slot k 0) (.sl true 1 (m+1) cs) (a.eval y):=by
     intro base m' dn hv hc
     rw[e1]at hv
     injection hv with v1 v2 v3
     exact⟨b0,adN,c,et,fz',v1.symm,q2,q3,hb0,by rw[q5,v3],hfz,akP,q6.2.2.1,.inr ⟨Nat.succ_pos _,x0,by
      obtain⟨u,u1,u2,_⟩:=hat
      have k1:=u1 0 (.int .u8 x0) (by rw[hcs];rfl)
      have k2:=VR.ct (u2 0 (.int .u8 x0) (by rw[hcs];rfl))
      rw[q6.2.2.1,cell_of_row w q4,k2]at k1
      exact k1⟩,q6.2.2.2.2⟩
    have hV:dg G w' E.e a.tmps k (.sl true 1 (m+1) cs) (a.eval y):=⟨hp.vr h.aS hvr,hO⟩
    rcases hx' with h'|h'<;>rw[h']
    ·exact hV
    ·exact⟨fun _=>hV,fun h=>by cases h⟩
   ·exact dg.frame (fun _ _ hv=>hp.vr h.aS hv) (fun c hc=>⟨rfl,rfl,hne c (by rcases hc with⟨j,hc⟩|hc<;>rw[hc]<;>simp[hki])⟩) (fun c c' j _ hc=>⟨hc,rfl,hne c' (by rw[hc];simp)⟩) _ _ (fun d _ cs hcs=>⟨cs,hcs,rfl⟩) (h.ch k v hk)
 have LZ:Inv G n D (E.put d (.sl false 1 (m+1) cs)) (a.put d (a.eval y)) w':=hI.PQ hd (av:=.sl true 1 (m+1) cs) rfl (hp.vr h.aS hvr)
 intro pos after gd next Q hn
 refine aX (v:=a.eval y) (w':=w') ?_ (hn G _ _ _ LZ hp hK)
 have Ra:w.shape? b0=some (et,c.size):=by
  unfold World.shape?
  rw[q4]
 have Wa:(convert s s (.slice (some ⟨b0,adN,none⟩) (m+1) agv)).run P w=.ok (.slice (some ⟨b0,adN,none⟩) (m+1) agv) w':=by
  simp[convert,run_underlying ht,run_underlying he,markStringish,Ra]
  rfl
 simp[execOp,e1,Wa]
theorem VJ(h:Inv G n D E a w){op:Op}{ty:TypeId}{x:IX}{d:Option Nat}{K:St->Prop}(hd:bp n d=true)(hc:ao P op ty (.rW x)=true)(hw:jf P (.rW x) d E K):ri P G n D w a op ty d K:=by
 have hw':RR E d K (CO (xg true E x)):=hw
 have key:∀y,bJ y x=true->∃vs,K (E.put d (.gw (views vs)))/\Inv G n D (E.put d (.gw (views vs))) (a.put d (a.eval y)) w:=by
  intro y hy
  have hb:=BR.aN h hy
  generalize xg true E x=xv at hb hw'
  unfold CO at hw'
  split at hw'<;>try(exact hw'.elim)
  rename_i vs
  refine⟨vs,hw',?_⟩
  obtain⟨ys,e,hl,hr⟩:=VR.SV (show VR w G.R (.gw vs) (a.eval y) from hb)
  have:=h.put (s':=E.s) (lp':=E.lp) d (fun i hi=>by subst hi;simpa[bp]using hd) (.gw (views vs)) (a.eval y) h.aS (ax.refl G w) h.store (fun _ hx=>hx) (fun i t _ ht=>ht.elim) (fun i t _⟨cs,hcs⟩=>by cases hcs)
   (fun _ _ _ _=>⟨rfl,rfl,rfl⟩) (fun _ _ _ _ _ _ hcc=>⟨hcc,rfl,rfl⟩) (fun i hdi=>⟨ys,e,by simpa[views]using hl,fun j x y hx hy=>by
     rw[eK]at hx
     cases hj:vs[j]? with
     |none=>rw[hj]at hx;cases hx
     |some c=>
      rw[hj]at hx
      simp at hx
      subst hx
      exact⟨(hr j c y hj hy).view,dm.view ..⟩⟩)
  cases d<;>exact this
 intro pos after g next Q hn
 cases op<;>first|(simp[ao]at hc;done)|skip
 ·rename_i y
  obtain⟨vs,h1,h2⟩:=key y hc
  exact aX rfl (hn G _ _ _ h2 (ax.refl G w) h1)
 ·rename_i y
  obtain⟨vs,h1,h2⟩:=key y hc
  exact aX rfl (hn G _ _ _ h2 (ax.refl G w) h1)
end
end Go.AB
end
section
namespace Go.AB
open Go
section
variable{P:Program}{G G':Gh}{n:Nat}{D:List Deferred}{E:St}{a:Act}{w w':World}
theorem aP.at(h:aP G w E.s){b off m:Nat}{cs:List AV}(hs:E.s b=some (.cells cs))(dL:off+m<=cs.length):At w G.R b off (AB.views (AB.sub cs off m)):=by
 obtain⟨_,_,c,t,h4,h5,h6⟩:=h b _ hs
 have hat:=(At.K5 h4 h5 h6).sub off m
 rwa[Nat.zero_add,Lq]at hat
structure ub(P:Program)(w:World)(R:Nat->Nat)(sz m:Nat)(ds:List AV)(v:Value)(news:List Value):Prop where
 len:news.length=m*sz
 zn:ds.length=m*sz
 lenOf:∀w',(Builtin.lenOf v).run P w'=.ok m w'
 first:∀k,k<=m->∀w',w'.heap=w.heap->(Builtin.firstCells sz k v).run P w'=.ok (news.take (k*sz)).toArray w'
 one:∀u∈news,u.oneCell'=true
 od:∀(j:Nat)(c:AV)(u:Value),ds[j]? =some c->news[j]? =some u->VR w R c u
 fl:Fl ds
 vw:views ds=ds
theorem qA(ds:List AV):views (views ds)=views ds:=by
 unfold views
 rw[List.map_map]
 apply List.map_congr_left
 intro a _
 cases a<;>rfl
theorem ub.src{R:Nat->Nat}{sz m:Nat}{ds:List AV}{v:Value}{news:List Value}(h:ub P w R sz m ds v news):Src P w R sz m ds v news:=⟨h.len,h.zn,h.lenOf,fun w' hw'=>by rw[h.first m (Nat.le_refl m) w' hw',List.take_of_length_le (by rw[h.len];exact Nat.le_refl _)],h.one,h.od,h.fl⟩
theorem ub.abI{R:Nat->Nat}{sz m b off cap:Nat}{cs:List AV}(hl:cs.length=m*sz)(hat:At w R b off cs):∃news,ub P w R sz m (views cs) (.slice (some ⟨b,off,none⟩) m cap) news:=by
 have V8:=hat.views
 obtain⟨us,h1,h2,h3⟩:=V8.od
 have hfl:Fl (views cs):=by obtain⟨_,_,_,hf⟩:=V8;exact hf
 have hlen:(views cs).length=m*sz:=by simp[views,hl]
 refine⟨us,by rw[h1,hlen],hlen,fun _=>rfl,fun k hk w' hw'=>?_,fun u hu=>?_,h3,hfl,qA cs⟩
 ·have hkl:k*sz<=us.length:=by rw[h1,hlen];exact Nat.mul_le_mul_right _ hk
  exact run_firstCells_some w' sz k ⟨b,off,none⟩ m cap (us.take (k*sz)) (by simp;omega) fun j v hj=>by
   rw[BI hw']
   rw[List.getElem?_take]at hj
   split at hj
   ·exact h2 j v hj
   ·cases hj
 ·obtain⟨j,hj⟩:=List.mem_iff_getElem?.1 hu
  have hlt:j<(views cs).length:=by rw[<-h1];exact(List.getElem?_eq_some_iff.1 hj).1
  have hx:=List.getElem?_eq_getElem hlt
  exact iw (hfl _ (List.getElem_mem hlt)) (h3 j _ u hx hj)
theorem ub.none{R:Nat->Nat}{sz:Nat}:ub P w R sz 0 [] (.slice none 0 0) []:=
 ⟨by simp,by simp,fun _=>rfl,fun k hk w' _=>by
   have:k=0:=by omega
   subst this;simp[Builtin.firstCells],fun u hu=>by simp at hu,fun j c u hc=>by simp at hc,Fl.nil,rfl⟩
theorem ub.empty{R:Nat->Nat}{sz cap:Nat}{base:Option Addr}:ub P w R sz 0 [] (.slice base 0 cap) []:=
 ⟨by simp,by simp,fun _=>rfl,fun k hk w' _=>by
   have:k=0:=by omega
   subst this
   cases base with
   |none=>simp[Builtin.firstCells]
   |some x=>
    obtain⟨b,off,sp⟩:=x
    simp[Builtin.firstCells,loadCells,loadCellsFrom],fun u hu=>by simp at hu,fun j c u hc=>by simp at hc,Fl.nil,rfl⟩
theorem ub.str{R:Nat->Nat}{l:List UInt8}:ub P w R 1 l.length (l.map fun c=>.int .u8 c.toNat) (.string ⟨l.toArray⟩) (l.map fun c=>.int .u8 c.toNat)where
 len:=by simp
 zn:=by simp
 lenOf:=fun w'=>by simp[Builtin.lenOf,ByteArray.size]
 first:=fun k hk w' _=>by
  have:((ByteArray.mk l.toArray).extract 0 k).data=(l.take k).toArray:=by
   rw[ByteArray.data_extract]
   apply Array.ext'
   simp
  simp[Builtin.firstCells,this,List.map_take]
 one:=(Src.RC (P:=P) (w:=w) (R:=R)).one
 od:=(Src.RC (P:=P) (w:=w) (R:=R)).od
 fl:=Fz l
 vw:=by simp[views,view]
theorem sw{m sz off:Nat}{o:Option SO}{k:Nat}{ds:List AV}(h:j5 m sz off o=some (k,ds)):∃cs,o=some (.cells cs)/\off+m*sz<=cs.length/\k=m/\ds=views (AB.sub cs off (m*sz)):=by
 unfold j5 at h
 split at h
 ·rename_i cs
  by_cases hl:off+m*sz<=cs.length
  ·rw[decide_eq_true hl]at h;injection h with h;injection h with h1 h2;exact⟨cs,rfl,hl,h1.symm,h2.symm⟩
  ·rw[decide_eq_false hl]at h;cases h
 ·cases h
theorem HX(h:Inv G n D E a w){sz m:Nat}{x:IX}{o:Operand}{ds:List AV}(hx:bJ o x=true)(hs:ur E.s sz (E.x x)=some (m,ds)):∃news,ub P w G.R sz m ds (a.eval o) news:=by
 have hb:=XR.aN h hx
 generalize E.x x=av at hb hs
 unfold ur at hs
 split at hs
 ·rename_i ow s' k cs
  by_cases he:s'=sz
  ·subst he
   rw[beq_self_eq_true]at hs
   injection hs with hs;injection hs with h1 h2;subst h1;subst h2
   rcases VR.hZ hb with⟨e0,rfl,rfl⟩|⟨b,off,cap,e,hl,_,_,hat⟩
   ·obtain⟨_,_,e⟩:=e0.ex
    rw[e];exact⟨[],ub.empty⟩
   ·rw[e];exact ub.abI hl hat
  ·rw[show(s'==sz)=false by simpa using he]at hs
   by_cases hk:k=0
   ·subst hk
    injection hs with hs;injection hs with h1 h2;subst h1;subst h2
    rcases VR.hZ hb with⟨(e|⟨_,_,_,e⟩),_,_⟩|⟨b,off,cap,e,_⟩<;>rw[e]<;>exact⟨[],ub.empty⟩
   ·rw[show(k==0)=false by simpa using hk]at hs;cases hs
 ·rename_i l
  by_cases he:sz=1
  ·subst he
   rw[beq_self_eq_true]at hs
   injection hs with hs;injection hs with h1 h2;subst h1;subst h2
   rw[VR.eW hb];exact⟨_,ub.str⟩
  ·rw[show(sz==1)=false by simpa using he]at hs;cases hs
 ·rename_i b off k cap
  by_cases hk:k=0
  ·subst hk
   injection hs with hs;injection hs with h1 h2;subst h1;subst h2
   rcases VR.cd hb with e|⟨_,_,e⟩<;>rw[e]<;>exact⟨[],ub.empty⟩
  ·rw[show(k==0)=false by simpa using hk]at hs
   obtain⟨cs,e1,e2,rfl,rfl⟩:=sw hs
   rcases VR.cd hb with e|⟨h0,_,_⟩
   ·rw[e]
    have hsn:=ub.abI (P:=P) (cap:=cap) (show(AB.views (AB.sub cs off (m*sz))).length=m*sz by simp[views,j7 e2]) (h.store.at e1 e2)
    rwa[qA]at hsn
   ·exact absurd h0 hk
 ·cases hs
theorem Inv.zF(h:Inv G n D E a w){b off:Nat}{cs ds:List AV}{news:List Value}{c:Array Value}{t:TypeId}(hs:E.s b=some (.cells cs))(hb:w.heap[b]? =some (.cells c t (0,0)))
 (hlen:news.length=ds.length)(dL:off+ds.length<=cs.length)(hfl:Fl ds)(hvw:views ds=ds)(uT:∀(j:Nat)(x:AV)(y:Value),ds[j]? =some x->news[j]? =some y->VR w G.R x y):
 Inv G n D {E with s:=E.s.set b (.cells (setAt cs off ds))} a (w.setRow b (laid c off news))/\ax G w G (w.setRow b (laid c off news)):=by
 obtain⟨q2,q3,c',t',q4,q5,q6⟩:=h.store b _ hs
 rw[hb]at q4;injection q4 with q4;injection q4 with q4 q4' _
 subst q4;subst q4'
 have hne:∀j,G.O b≠.cell b j:=fun j=>by rw[q2];simp
 have bw:ax G w G (w.setRow b (laid c off news)):=ax.write hb (by rw[q2];simp) (fun k hk=>by rw[q3]at hk;omega) (Nat.le_refl _) (fun _ _=>⟨rfl,rfl⟩)
 have ja:=du.lay hb bw h.aS q5 hlen dL hne (fun j x y hx hy=>⟨uT j x y hx hy,by
  rw[<-hvw,eK]at hx
  cases hz:ds[j]? with
  |none=>rw[hz]at hx;cases hx
  |some x'=>rw[hz]at hx;simp at hx;rw[<-hx];exact dm.view ..⟩)
 have hst:aP G (w.setRow b (laid c off news)) (E.s.set b (.cells (setAt cs off ds))):=by
  intro b' o hb'
  unfold ab.set at hb'
  by_cases hbg:b'=b
  ·rw[if_pos hbg]at hb';injection hb' with hb';subst hb';subst hbg
   exact⟨q2,q3,_,t,setRow_heap w b' c _ t _ hb,ja,CW.setAt q6 hfl off⟩
  ·rw[if_neg hbg]at hb'
   obtain⟨r1,r2,r3⟩:=h.store b' o hb'
   refine⟨r1,r2,?_⟩
   have hbk:=setRow_other w b b' (laid c off news) hbg
   cases o with
   |cells cs=>
    obtain⟨c0,t0,r4,r5,r6⟩:=r3
    exact⟨c0,t0,hbk.trans r4,r5.mono (fun _ _ hv=>bw.vr h.aS hv) (fun b'' j ns=>⟨ns,rfl,setRow_other w b b'' _ (fun e=>by subst e;rw[q2]at ns;cases ns)⟩),r6⟩
   |map es=>
    obtain⟨iu,clock,r4,r5,r6⟩:=r3
    exact⟨iu,clock,hbk.trans r4,r5,fun j x y hx hy=>⟨bw.vr h.aS (r6 j x y hx hy).1,bw.vr h.aS (r6 j x y hx hy).2⟩⟩
 obtain⟨h2,_⟩:=h.written (E':={E with s:=E.s.set b (.cells (setAt cs off ds))}) hb (.inr q2) q3 rfl hst (fun k=>.inl ⟨rfl,by rw[q2];simp⟩)
 exact⟨h2,bw⟩
theorem Inv.PT(h:Inv G n D E a w){d:Option Nat}(hd:bp n d=true){av:AV}{v:Value}(hi:dt av=true)(hv:VR w G.R av v)(OR:view av=av):Inv G n D (E.put d av) (a.put d v) w:=by
 have:=h.put (s':=E.s) (lp':=E.lp) d (fun i hi=>by subst hi;simpa[bp]using hd) av v h.aS (ax.refl G w) h.store (fun _ hx=>hx) (fun i t _ ht=>(eQ hi t ht).elim) (fun i t _⟨cs,hcs⟩=>(oM hi cs hcs).elim)
  (fun _ _ _ _=>⟨rfl,rfl,rfl⟩) (fun _ _ _ _ _ _ hcc=>⟨hcc,rfl,rfl⟩) (fun i hdi=>by
    rw[dg.qP hi]
    refine⟨hv,?_⟩
    rw[<-OR];exact dm.view ..)
 cases d<;>exact this
theorem Inv.adR(h:Inv G n D E a w){d:Option Nat}(hd:bp n d=true):Inv G n D (E.put d (.gw [])) (a.put d (.tuple #[])) w:=by
 have:=h.put (s':=E.s) (lp':=E.lp) d (fun i hi=>by subst hi;simpa[bp]using hd) (.gw []) (.tuple #[]) h.aS (ax.refl G w) h.store (fun _ hx=>hx) (fun i t _ ht=>ht.elim) (fun i t _⟨cs,hcs⟩=>by cases hcs)
  (fun _ _ _ _=>⟨rfl,rfl,rfl⟩) (fun _ _ _ _ _ _ hcc=>⟨hcc,rfl,rfl⟩) (fun i hdi=>⟨#[],rfl,rfl,fun j x y hx=>by simp at hx⟩)
 cases d<;>exact this
theorem LS(h:Inv G n D E a w){op:Op}{ty:TypeId}{sz m:Nat}{z:List AV}{ps:List (Nat×Nat×IX)}{d:Option Nat}{K:St->Prop}(hd:bp n d=true)(hc:ao P op ty (.jR sz m z ps)=true)(hw:jf P (.jR sz m z ps) d E K):ri P G n D w a op ty d K:=by
 cases op<;>first|(simp[ao]at hc;done)|skip
 rename_i t m' qs
 simp only[ao,Bool.and_eq_true,beq_iff_eq]at hc
 obtain⟨rfl,hc⟩:=hc
 split at hc<;>try(cases hc;done)
 rename_i e ht
 have ht:=dw ht
 simp only[Bool.and_eq_true]at hc
 obtain⟨⟨⟨⟨hs,oF⟩,hp⟩,Wg⟩,hz⟩:=hc
 obtain⟨i,hi,yZ⟩:=mM hs
 rw[hi]at hz
 simp only at hz
 split at hz<;>try(cases hz;done)
 rename_i zv hzv
 simp only[Bool.and_eq_true,beq_iff_eq]at hz
 obtain⟨hzr,hzs⟩:=hz
 have oF:=of_decide_eq_true oF
 have Wg:=of_decide_eq_true Wg
 have hw':wT sz m E d K (fill (xg true E) z ps):=hw
 cases hfl:fill (xg true E) z ps with
 |none=>rw[hfl]at hw';exact hw'.elim
 |some ds=>
  rw[hfl]at hw'
  obtain⟨hlen,hk⟩:=hw'
  obtain⟨hl,hpa⟩:=zw _ _ hp
  obtain⟨hz1,hz2⟩:=ET hzr
  have eI:Row w G.R z ((Array.range (m*sz)).map (zv.cells[·% zv.cells.size]!)):=by
   rw[<-hzs,wN]
   exact⟨by simpa using hz1,fun j c u hc hu=>uH (hz2 j c u hc (by simpa using hu)) w G.R,FB hzr⟩
  have hf:∀(o:Operand)(x:IX),bJ o x=true->dt (xg true E x)=true->VR w G.R (xg true E x) (a.eval o):=fun o x hx hi=>by
   have:=BR.aN h hx
   generalize xg true E x=av at hi this
   cases av<;>first|exact this|(simp[dt]at hi)
  obtain⟨us,h1,h2⟩:=sB h hf (fun i=>some (i*sz,sz)) qs.toList ps z ds _ ⟨hl,fun j q p hq hp'=>by
   obtain⟨⟨e1,e2⟩,hx⟩:=hpa j q p hq hp'
   exact⟨by rw[e1,e2],hx⟩⟩ eI hfl
  obtain⟨G1,h3,h4⟩:=h.Rz (t:=e) (c:=us) (cs:=views ds) hd (.inr ⟨m,m,rfl,rfl⟩) (fun G' w' o hp=>nY (h2.mono fun _ _ hv=>hp.vr h.aS hv)) h2.2.2.views
  intro pos after gd next Q hn
  refine aX ?_ (hn G1 _ _ _ h3 h4 (hk w.heap.size (h.store.get_none h.aS)))
  by_cases hm0:m*sz=0
  ·have hm:m=0:=by
    rcases Nat.mul_eq_zero.1 hm0 with h|h
    ·exact h
    ·omega
   subst hm
   simp only[Nat.zero_mul]at h1
   have:(Array.range 0).map (zv.cells[·% zv.cells.size]!)= #[]:=by simp
   rw[this]at h1
   have hr0:Array.map (fun _:Nat=>(default:Value)) (Array.range 0)= #[]:=by apply Array.ext';simp
   simp[execOp,Instr.buildSlice,run_underlying ht,run_sizeOf hs,hr0,h1,newRow]
  ·have h24:¬(16777216<m*sz):=by omega
   simp[execOp,Instr.buildSlice,run_underlying ht,run_sizeOf hs,h24,hm0,zeroValue,typeInfo,hi,hzv,h1,newRow]
end
end Go.AB
end
section
namespace Go.AB
open Go
section
variable{P:Program}{G G':Gh}{n:Nat}{D:List Deferred}{E:St}{a:Act}{w w':World}
theorem CJ(cs:List AV)(k:Nat):setAt cs k []=cs:=by simp[setAt]
theorem pY{s:ab}{b:Nat}{o:SO}(h:s b=some o):s.set b o=s:=by
 funext i
 unfold ab.set
 split
 ·rename_i e;subst e;exact h.symm
 ·rfl
theorem CF{sz b off cap:Nat}{o:Option SO}(h:CE sz b off cap o):∃cs,o=some (.cells cs)/\off+cap*sz<=cs.length:=by
 unfold CE at h
 split at h
 ·exact⟨_,rfl,h⟩
 ·exact h.elim
theorem wO{e:TypeId}{z:List AV}(hz:qb P e z=true):∃v:Value,(∀w,(zeroValue e).run P w=.ok v w)/\(∃i,P.info? e=some i/\i.zero=some v/\i.size=z.length)/\∀(q:Nat),(Builtin.zeroCells v.cells q).toList.length=q*z.length/\(List.replicate q z).flatten.length=q*z.length/\
 (∀(j:Nat)(x:AV)(y:Value),(List.replicate q z).flatten[j]? =some x->(Builtin.zeroCells v.cells q).toList[j]? =some y->cR y x=true)/\Fl (List.replicate q z).flatten/\(∀y∈(Builtin.zeroCells v.cells q).toList,y.oneCell'=true):=by
 obtain⟨i,v,h1,h2,h3,h4,h5⟩:=xu hz
 refine⟨v,fun w=>by simp[zeroValue,typeInfo,h1,h2],⟨i,h1,h2,h3⟩,fun q=>?_⟩
 have e0:Builtin.zeroCells v.cells q=((List.replicate q v.cells.toList).flatten).toArray:=wN v.cells q
 rw[e0]
 have h4:=h4 default fun _=>0
 have hlz:v.cells.toList.length=z.length:=by simpa using h4.1
 have BV:∀y∈v.cells.toList,y.oneCell'=true:=by
  intro y hy
  obtain⟨j,hj⟩:=List.mem_iff_getElem?.1 hy
  have hlt:j<z.length:=by rw[<-hlz];exact(List.getElem?_eq_some_iff.1 hj).1
  exact iw (h4.2.2 _ (List.getElem_mem hlt)) (h4.2.1 j _ y (List.getElem?_eq_getElem hlt) (by simpa using hj))
 have hlen:∀(α:Type)(l:List α),(List.replicate q l).flatten.length=q*l.length:=fun α l=>by simp
 refine⟨by show(List.replicate q v.cells.toList).flatten.length=_;rw[hlen,hlz],hlen _ z,?_,?_,?_⟩
 ·show∀(j:Nat)(x:AV)(y:Value),(List.replicate q z).flatten[j]? =some x->(List.replicate q v.cells.toList).flatten[j]? =some y->cR y x=true
  clear e0 hlen
  induction q with
  |zero=>intro j x y hx;simp at hx
  |succ q ih=>
   intro j x y hx hy
   simp only[List.replicate_succ,List.flatten_cons]at hx hy
   by_cases hj:j<z.length
   ·rw[List.getElem?_append_left hj]at hx
    rw[List.getElem?_append_left (by omega)]at hy
    exact h5 j x y hx (by simpa using hy)
   ·rw[List.getElem?_append_right (by omega)]at hx
    rw[List.getElem?_append_right (by omega),hlz]at hy
    exact ih _ x y hx hy
 ·intro x hx
  simp only[List.mem_flatten,List.mem_replicate]at hx
  obtain⟨l,⟨_,rfl⟩,hm⟩:=hx
  exact h4.2.2 x hm
 ·intro y hy
  simp only[List.mem_flatten,List.mem_replicate]at hy
  obtain⟨l,⟨_,rfl⟩,hm⟩:=hy
  exact BV y hm
theorem Oi(h:Inv G n D E a w){op:Op}{ty:TypeId}{sz by':Nat}{z:List AV}{x y:IX}{d:Option Nat}{K:St->Prop}(hd:bp n d=true)(hc:ao P op ty (.eV sz by' z x y)=true)(hw:jf P (.eV sz by' z x y) d E K):ri P G n D w a op ty d K:=by
 cases op<;>first|(simp[ao]at hc;done)|skip
 rename_i c
 simp only[ao]at hc
 split at hc<;>try(cases hc;done)
 rename_i u v t t' hb
 have hce:=ss hb
 subst hce
 simp only[Bool.and_eq_true]at hc
 obtain⟨⟨hu,hv⟩,hc⟩:=hc
 split at hc<;>try(cases hc;done)
 rename_i e ht
 have ht:=dw ht
 simp only[Bool.and_eq_true]at hc
 obtain⟨⟨⟨⟨⟨⟨hs,hby⟩,oF⟩,uR⟩,hzl⟩,hzi⟩,ht'⟩:=hc
 obtain⟨i,hi,yZ⟩:=mM hs
 obtain⟨zv,_,⟨i1,hi1,hz,hz1⟩,Zs⟩:=wO hzi
 rw[hi]at hi1;injection hi1 with hi1;subst hi1
 have oF:=of_decide_eq_true oF
 have uR:=of_decide_eq_true uR
 have hby:i.bytes=by':=by
  unfold oE at hby
  rw[hi]at hby
  simpa using hby
 have ht2:(∃e',P.underlying t'=some (.slice e'))\/P.underlying t'=some .string:=by
  rcases Bool.or_eq_true .. ▸ht' with h|h
  ·cases he:dp P t' with
   |none=>rw[he]at h;cases h
   |some e'=>exact .inl ⟨e',dw he⟩
  ·exact .inr (E6 h)
 have hw':eN sz by' z E d K (E.x x) (ur E.s sz (E.x y)):=hw
 have hbx:=XR.aN h hu
 generalize E.x x=xv at hw' hbx
 cases hsv:ur E.s sz (E.x y)with
 |none=>rw[hsv]at hw';unfold eN at hw';split at hw'<;>first|(rename_i hh;cases hh;done)|exact hw'.elim
 |some md=>
 obtain⟨m,ds⟩:=md
 rw[hsv]at hw'
 obtain⟨news,Wq⟩:=HX (P:=P) h hv hsv
 have eO:=Wq.src
 unfold eN at hw'
 split at hw'<;>try(exact hw'.elim)
 rename_i b off k cap _ _ he0
 injection he0 with he0;injection he0 with e1 e2;subst e1;subst e2
 cases hol:pQ E.s sz b off k with
 |none=>rw[hol]at hw';exact hw'.elim
 |some olds=>
 rw[hol]at hw'
 obtain⟨ac7,abr,OP⟩:=hw'
 have hold:k=0/\olds=[]\/∃cs,E.s b=some (.cells cs)/\off+k*sz<=cs.length/\olds=views (AB.sub cs off (k*sz)):=by
  unfold pQ at hol
  by_cases hk:k=0
  ·subst hk
   injection hol with hol;exact .inl ⟨rfl,hol.symm⟩
  ·rw[show(k==0)=false by simpa using hk]at hol
   cases hca:j5 k sz off (E.s b)with
   |none=>rw[hca]at hol;cases hol
   |some q=>
    rw[hca]at hol;injection hol with hol
    obtain⟨q1,q2⟩:=q
    obtain⟨cs,e1,e2,_,e4⟩:=sw hca
    exact .inr ⟨cs,e1,e2,by rw[<-hol];exact e4⟩
 by_cases dL:k+m<=cap
 ·rcases abr dL with⟨rfl,hk⟩|⟨cJ,hk⟩
  ·have Au:news=[]:=List.eq_nil_of_length_eq_zero (by simpa using eO.len)
   subst Au
   intro pos after gd next Q hn
   refine aX (w':=w) (v:=a.eval u) ?_ (hn G _ _ _ (h.PT hd rfl hbx rfl) (ax.refl G w) hk)
   rcases VR.cd hbx with e1|⟨rfl,rfl,e1⟩
   ·have b7:=lX (ty:=ty) (w:=w) ht ht2 hi yZ eO (b:=b) (off:=off) (k:=k) (cap:=cap) dL (w':=w) rfl
    simp only[Nat.add_zero]at b7
    simp[execOp,resolve,invoke,builtin,e1,b7]
   ·have b7:=s6 (ty:=ty) ht ht2 hi yZ eO
    simp[execOp,resolve,invoke,builtin,e1,b7]
  ·obtain⟨cs,hsb,Wb⟩:=CF cJ
   rw[hsb]at hk
   have hk':K ({E with s:=E.s.set b (.cells (setAt cs (off+k*sz) ds))}.put d (.arr b off (k+m) cap)):=hk
   obtain⟨_,_,c,et,hcb,hcr,hcf⟩:=h.store b _ hsb
   have hmul:off+k*sz+m*sz<=cs.length:=by
    rw[Nat.add_assoc,<-Nat.add_mul]
    exact Nat.le_trans (Nat.add_le_add_left (Nat.mul_le_mul_right _ dL) _) Wb
   by_cases hm:m=0
   ·subst hm
    have Au:news=[]:=List.eq_nil_of_length_eq_zero (by simpa using eO.len)
    have hds:ds=[]:=List.eq_nil_of_length_eq_zero (by simpa using eO.zn)
    subst Au;subst hds
    rw[CJ,pY hsb,Nat.add_zero]at hk'
    intro pos after gd next Q hn
    refine aX (w':=w) (v:=a.eval u) ?_ (hn G _ _ _ (h.PT hd rfl hbx rfl) (ax.refl G w) hk')
    rcases VR.cd hbx with e1|⟨rfl,rfl,e1⟩
    ·have b7:=lX (ty:=ty) (w:=w) ht ht2 hi yZ eO (b:=b) (off:=off) (k:=k) (cap:=cap) dL (w':=w) rfl
     simp only[Nat.add_zero]at b7
     simp[execOp,resolve,invoke,builtin,e1,b7]
    ·have b7:=s6 (ty:=ty) ht ht2 hi yZ eO
     simp[execOp,resolve,invoke,builtin,e1,b7]
   ·have e1:=VR.sJ hbx (by omega)
    obtain⟨h2,hp2⟩:=h.zF (off:=off+k*sz) (ds:=ds) (news:=news) hsb hcb (by rw[eO.len,eO.zn]) (by rw[eO.zn];exact hmul) eO.fl Wq.vw eO.od
    have Wc:off+k*sz+news.length<=c.size:=by rw[eO.len,hcr.1];exact hmul
    have hst:=eh (P:=P) b (off+k*sz) et (0,0) news 0 c w hcb (fun j _ hj=>by simp at hj) (by simpa using Wc) eO.one
    have b7:=lX (ty:=ty) (w:=w) ht ht2 hi yZ eO (b:=b) (off:=off) (k:=k) (cap:=cap) dL (w':=w.setRow b (laid c (off+k*sz) news)) (by simpa[laid]using hst)
    intro pos after gd next Q hn
    refine aX ?_ (hn G _ _ _ (h2.PT hd rfl (.arr b off (k+m) cap) rfl) hp2 hk')
    simp[execOp,resolve,invoke,builtin,e1,b7]
 ·have hgr:cap<k+m:=by omega
  obtain⟨cJ,hk⟩:=OP hgr
  have grow:∀(base:Option Addr)(us:List Value),a.eval u=.slice base k cap->us.length=k*sz->olds.length=k*sz->Fl olds->views olds=olds->
   (Builtin.firstCells sz k (.slice base k cap)).run P w.drew=.ok us.toArray w.drew->(∀(j:Nat)(c:AV)(u:Value),olds[j]? =some c->us[j]? =some u->VR w G.R c u)->
   ri P G n D w a (.call {callee:=.builtin .append,args:= #[u,v],argTypes:= #[t,t']}) ty d K:=by
   intro base us e1 hul ac1 hof hov hfc uT
   have b7:=Bj (ty:=ty) ht ht2 hi hz yZ eO hfc hgr (by rw[hby];exact cJ) (by rw[hby];exact uR)
   have hge:k+m<=grownCap w (k+m) cap e:=grownCap_ge w (k+m) cap e
   obtain⟨zz1,zz2,zz3,zz4,_⟩:=Zs (grownCap w (k+m) cap e -(k+m))
   obtain⟨G2,h3,h4⟩:=(h.drew).Rz (t:=e) (c:=us.toArray++news.toArray++Builtin.zeroCells zv.cells (grownCap w (k+m) cap e -(k+m)))
    (cs:=olds++ds++(List.replicate (grownCap w (k+m) cap e -(k+m)) z).flatten) (d:=d) hd (.inr ⟨k+m,grownCap w (k+m) cap e,rfl,rfl⟩)
    (fun G' w' o hp=>by
      have hl1:=eO.len
      have hl2:=eO.zn
      refine⟨by simp only[Array.size_append,List.size_toArray,List.length_append,zz2];rw[Array.length_toList]at zz1;omega,fun j x y hx hy=>?_⟩
      have v7:∀(l:List AV)(q:Nat),views l=l->l[q]? =some x->dm G' w' (o j) x y:=by
       intro l q hvl hq
       rw[<-hvl,eK]at hq
       cases hz':l[q]? with
       |none=>rw[hz']at hq;cases hq
       |some x'=>rw[hz']at hq;simp at hq;rw[<-hq];exact dm.view ..
      by_cases hj1:j<olds.length
      ·rw[List.append_assoc,List.getElem?_append_left hj1]at hx
       rw[Array.append_assoc,Array.getElem?_append_left (by simp;omega)]at hy
       exact⟨hp.vr h.drew.aS ((ax.drew G w).vr h.aS (uT j x y hx (by simpa using hy))),v7 _ _ hov hx⟩
      ·by_cases hj2:j<olds.length+ds.length
       ·rw[List.getElem?_append_left (by simp;omega),List.getElem?_append_right (by omega)]at hx
        rw[Array.getElem?_append_left (by simp;omega),Array.getElem?_append_right (by simp;omega)]at hy
        simp only[List.size_toArray,List.getElem?_toArray]at hy
        rw[hul,<-ac1]at hy
        exact⟨hp.vr h.drew.aS ((ax.drew G w).vr h.aS (eO.od _ x y hx hy)),v7 _ _ Wq.vw hx⟩
       ·rw[List.getElem?_append_right (by simp;omega)]at hx
        rw[Array.getElem?_append_right (by simp;omega)]at hy
        have ea:(us.toArray++news.toArray).size=olds.length+ds.length:=by simp;omega
        rw[ea]at hy
        rw[List.length_append]at hx
        have:=zz3 _ x y hx (by simpa using hy)
        exact⟨uH this w' G'.R,FA this G' w' _⟩)
    (fun c hc=>by
      rcases List.mem_append.1 hc with hc|hc
      ·rcases List.mem_append.1 hc with hc|hc
       ·exact hof c hc
       ·exact eO.fl c hc
      ·exact zz4 c hc)
   intro pos after gd next Q hn
   refine aX ?_ (hn G2 _ _ _ h3 ((ax.drew G w).trans h4) (hk _ _ (h.store.get_none h.aS) hge))
   simp[execOp,resolve,invoke,builtin,e1,b7]
  rcases VR.cd hbx with e1|⟨rfl,rfl,e1⟩
  ·rcases hold with⟨rfl,rfl⟩|⟨cs,hsb,hle,rfl⟩
   ·exact grow _ [] e1 (by simp) (by simp) Fl.nil rfl (run_firstCells_some w.drew sz 0 ⟨b,off,none⟩ 0 cap [] (by simp) (fun j v hj=>by simp at hj)) (fun j c u hc=>by simp at hc)
   ·have hat:=h.store.at hsb hle
    obtain⟨us,u1,u2,u3⟩:=hat.od
    have hfl:Fl (views (AB.sub cs off (k*sz))):=by obtain⟨_,_,_,hf⟩:=hat;exact hf
    have hlen:(views (AB.sub cs off (k*sz))).length=k*sz:=by simp only[views,List.length_map];exact j7 hle
    exact grow _ us e1 (by rw[u1,hlen]) hlen hfl (qA _) (run_firstCells_some w.drew sz k ⟨b,off,none⟩ k cap us (by rw[u1,hlen]) u2) u3
  ·rcases hold with⟨_,rfl⟩|⟨cs,hsb,hle,rfl⟩
   ·exact grow none [] e1 (by simp) (by simp) Fl.nil rfl (by simp[Builtin.firstCells]) (fun j c u hc=>by simp at hc)
   ·have:views (AB.sub cs off (0*sz))=[]:=by simp[AB.sub,views]
    rw[this]at grow
    exact grow none [] e1 (by simp) (by simp) Fl.nil rfl (by simp[Builtin.firstCells]) (fun j c u hc=>by simp at hc)
theorem J0{t t' ty e:TypeId}{i:TypeInfo}{z:Value}{sz m:Nat}{k':IntKind}(ht:P.underlying t=some (.slice e))(ht':P.underlying t'=some (.int k'))(hi:P.info? e=some i)(hz:i.zero=some z)(hsz:i.size=sz)(amu:0<sz){c:Int}(hc0:0<=c)(hm:c.toNat=m){base:Option Addr}{k cap:Nat}{olds:List Value}
 (hold:(Builtin.firstCells sz k (.slice base k cap)).run P w.drew=.ok olds.toArray w.drew)(cJ:cap<k+m)(FX:(k+m)*i.bytes<=room)(hb0:0<i.bytes):
 (Builtin.append_ #[t,t'] ty #[.slice base k cap,.int .i64 c]).run P w=.ok (.slice (some ⟨w.heap.size,0,none⟩) (k+m) (grownCap w (k+m) cap e))
   (w.drew.alloc (.cells (olds.toArray++Builtin.zeroCells z.cells m++Builtin.zeroCells z.cells (grownCap w (k+m) cap e -(k+m))) e)):=by
 subst hsz
 subst hm
 have h3:¬(k+c.toNat<=cap):=by omega
 have h4:¬(281474976710656<Builtin.nextslicecap (k+c.toNat) cap*i.bytes):=by have:=growslice_fits cJ FX;omega
 have h5:k+c.toNat<=(k+c.toNat)*i.bytes:=Nat.le_mul_of_pos_right _ hb0
 have Zk:=FX
 unfold room at Zk
 have hcb:c<=140737488355328:=by omega
 have h6:¬((9223372036854775807:Int)<(k:Int)+(c.toNat:Int)):=by omega
 have h6':¬((9223372036854775807:Int)<(k:Int)+c):=by omega
 have agV:¬((9223372036854775807:Int)<(k:Int)+max c 0):=by omega
 have hw:IntKind.i64.wrap c=c:=CU hc0 (by omega)
 have h7:¬(c<0):=by omega
 have h8:¬((281474976710656:Int)<c*(i.bytes:Int)):=by
  have h9:c.toNat*i.bytes<=(k+c.toNat)*i.bytes:=Nat.mul_le_mul_right _ (by omega)
  have h10:((c.toNat*i.bytes:Nat):Int)=c*(i.bytes:Int):=by rw[Int.natCast_mul,Int.toNat_of_nonneg hc0]
  omega
 by_cases hc1:c.toNat=0
 ·have:Builtin.zeroCells z.cells c.toNat= #[]:=by rw[hc1];simp[Builtin.zeroCells]
  have hm0:c.toNat*i.size=0:=by rw[hc1,Nat.zero_mul]
  simp[Builtin.append_,run_underlying ht,run_underlying ht',sizeOf,typeInfo,zeroValue,hi,hz,asInt,asIntOf,hw,h7,h8,h3,h4,h6,h6',agV,hm0,Question.forced,hold,newRow,grownCap,this]<;>
   (congr 2;apply Array.ext';simp[List.append_assoc])
 ·have hm0:¬(c.toNat*i.size=0):=by
   intro e
   rcases Nat.mul_eq_zero.1 e with e|e<;>omega
  simp[Builtin.append_,run_underlying ht,run_underlying ht',sizeOf,typeInfo,zeroValue,hi,hz,asInt,asIntOf,hw,h7,h8,h3,h4,h6,h6',agV,hm0,Question.forced,hold,newRow,grownCap]<;>
   (congr 2;apply Array.ext';simp[List.append_assoc])
theorem Oj(h:Inv G n D E a w){op:Op}{ty:TypeId}{sz by':Nat}{z:List AV}{x y:IX}{d:Option Nat}{K:St->Prop}(hd:bp n d=true)(hc:ao P op ty (.lz sz by' z x y)=true)(hw:jf P (.lz sz by' z x y) d E K):ri P G n D w a op ty d K:=by
 cases op<;>first|(simp[ao]at hc;done)|skip
 rename_i c
 simp only[ao]at hc
 split at hc<;>try(cases hc;done)
 rename_i u v t t' hb
 have hce:=ss hb
 subst hce
 simp only[Bool.and_eq_true]at hc
 obtain⟨⟨⟨hu,hv⟩,ht'⟩,hc⟩:=hc
 obtain⟨k',ht2⟩:=Zv ht'
 split at hc<;>try(cases hc;done)
 rename_i e ht
 have ht:=dw ht
 simp only[Bool.and_eq_true]at hc
 obtain⟨⟨⟨⟨hs,hby⟩,oF⟩,uR⟩,hzi⟩:=hc
 obtain⟨i,hi,yZ⟩:=mM hs
 obtain⟨zv,_,⟨i1,hi1,hz,hz1⟩,Zs⟩:=wO hzi
 rw[hi]at hi1;injection hi1 with hi1;subst hi1
 have oF:=of_decide_eq_true oF
 have uR:=of_decide_eq_true uR
 have hby:i.bytes=by':=by
  unfold oE at hby
  rw[hi]at hby
  simpa using hby
 have hw':uE sz by' z E d K (E.x x) (xg true E y):=hw
 have hbx:=XR.aN h hu
 have hbv:=BR.aN h hv
 generalize E.x x=xv at hw' hbx
 generalize xg true E y=yv at hw' hbv
 unfold uE at hw'
 split at hw'<;>try(exact hw'.elim)
 rename_i b off k cap q
 obtain⟨hq0,hgr,hvz,hw'⟩:=hw'
 have ev:=VR.ct hbv
 generalize hm:q.toNat=m at hw' hgr
 obtain⟨zm1,zm2,zm3,zm4,zm5⟩:=Zs m
 cases hol:pQ E.s sz b off k with
 |none=>rw[hol]at hw';exact hw'.elim
 |some olds=>
 rw[hol]at hw'
 obtain⟨ac7,abr,OP⟩:=hw'
 have hold:k=0/\olds=[]\/∃cs,E.s b=some (.cells cs)/\off+k*sz<=cs.length/\olds=views (AB.sub cs off (k*sz)):=by
  unfold pQ at hol
  by_cases hk:k=0
  ·subst hk
   injection hol with hol;exact .inl ⟨rfl,hol.symm⟩
  ·rw[show(k==0)=false by simpa using hk]at hol
   cases hca:j5 k sz off (E.s b)with
   |none=>rw[hca]at hol;cases hol
   |some q=>
    rw[hca]at hol;injection hol with hol
    obtain⟨q1,q2⟩:=q
    obtain⟨cs,e1,e2,_,e4⟩:=sw hca
    exact .inr ⟨cs,e1,e2,by rw[<-hol];exact e4⟩
 obtain⟨cJ,hk⟩:=OP hgr
 obtain⟨ds,hds⟩:∃ds,ds=(List.replicate m z).flatten:=⟨_,rfl⟩
 obtain⟨news,Au⟩:∃news,news=(Builtin.zeroCells zv.cells m).toList:=⟨_,rfl⟩
 have ak4:views ds=ds:=by
  rw[hds];unfold views at hvz⊢
  rw[List.map_flatten,List.map_replicate,hvz]
 rw[<-hds]at hk
 have grow:∀(base:Option Addr)(us:List Value),a.eval u=.slice base k cap->us.length=k*sz->olds.length=k*sz->Fl olds->views olds=olds->
  (Builtin.firstCells sz k (.slice base k cap)).run P w.drew=.ok us.toArray w.drew->(∀(j:Nat)(c:AV)(u:Value),olds[j]? =some c->us[j]? =some u->VR w G.R c u)->
  ri P G n D w a (.call {callee:=.builtin .append,args:= #[u,v],argTypes:= #[t,t']}) ty d K:=by
  intro base us e1 hul ac1 hof hov hfc uT
  have b7:=J0 (ty:=ty) ht ht2 hi hz yZ oF hq0 hm hfc hgr (by rw[hby];exact cJ) (by rw[hby];exact uR)
  have hge:k+m<=grownCap w (k+m) cap e:=grownCap_ge w (k+m) cap e
  obtain⟨zz1,zz2,zz3,zz4,_⟩:=Zs (grownCap w (k+m) cap e -(k+m))
  obtain⟨G2,h3,h4⟩:=(h.drew).Rz (t:=e) (c:=us.toArray++Builtin.zeroCells zv.cells m++Builtin.zeroCells zv.cells (grownCap w (k+m) cap e -(k+m)))
   (cs:=olds++ds++(List.replicate (grownCap w (k+m) cap e -(k+m)) z).flatten) (d:=d) hd (.inr ⟨k+m,grownCap w (k+m) cap e,rfl,rfl⟩)
   (fun G' w' o hp=>by
     have hl1:news.length=m*sz:=by rw[Au,zm1,ac7]
     have hl2:ds.length=m*sz:=by rw[hds,zm2,ac7]
     have hna:Builtin.zeroCells zv.cells m=news.toArray:=by rw[Au]
     rw[hna]
     refine⟨by simp only[Array.size_append,List.size_toArray,List.length_append,zz2];rw[Array.length_toList]at zz1;omega,fun j x y hx hy=>?_⟩
     have v7:∀(l:List AV)(q:Nat),views l=l->l[q]? =some x->dm G' w' (o j) x y:=by
      intro l q hvl hq
      rw[<-hvl,eK]at hq
      cases hz':l[q]? with
      |none=>rw[hz']at hq;cases hq
      |some x'=>rw[hz']at hq;simp at hq;rw[<-hq];exact dm.view ..
     by_cases hj1:j<olds.length
     ·rw[List.append_assoc,List.getElem?_append_left hj1]at hx
      rw[Array.append_assoc,Array.getElem?_append_left (by simp;omega)]at hy
      exact⟨hp.vr h.drew.aS ((ax.drew G w).vr h.aS (uT j x y hx (by simpa using hy))),v7 _ _ hov hx⟩
     ·by_cases hj2:j<olds.length+ds.length
      ·rw[List.getElem?_append_left (by simp;omega),List.getElem?_append_right (by omega)]at hx
       rw[Array.getElem?_append_left (by simp;omega),Array.getElem?_append_right (by simp;omega)]at hy
       simp only[List.size_toArray,List.getElem?_toArray]at hy
       rw[hul,<-ac1]at hy
       exact⟨hp.vr h.drew.aS ((ax.drew G w).vr h.aS (uH (zm3 _ x y (by rw[<-hds];exact hx) (by rw[<-Au];exact hy)) w G.R)),v7 _ _ ak4 hx⟩
      ·rw[List.getElem?_append_right (by simp;omega)]at hx
       rw[Array.getElem?_append_right (by simp;omega)]at hy
       have ea:(us.toArray++news.toArray).size=olds.length+ds.length:=by simp;omega
       rw[ea]at hy
       rw[List.length_append]at hx
       have:=zz3 _ x y hx (by simpa using hy)
       exact⟨uH this w' G'.R,FA this G' w' _⟩)
   (fun c hc=>by
     rcases List.mem_append.1 hc with hc|hc
     ·rcases List.mem_append.1 hc with hc|hc
      ·exact hof c hc
      ·exact zm4 c (by rw[<-hds];exact hc)
     ·exact zz4 c hc)
  intro pos after gd next Q hn
  refine aX ?_ (hn G2 _ _ _ h3 ((ax.drew G w).trans h4) (hk _ _ (h.store.get_none h.aS) hge))
  simp[execOp,resolve,invoke,builtin,e1,ev,b7]
 rcases VR.cd hbx with e1|⟨rfl,rfl,e1⟩
 ·rcases hold with⟨rfl,rfl⟩|⟨cs,hsb,hle,rfl⟩
  ·exact grow _ [] e1 (by simp) (by simp) Fl.nil rfl (run_firstCells_some w.drew sz 0 ⟨b,off,none⟩ 0 cap [] (by simp) (fun j v hj=>by simp at hj)) (fun j c u hc=>by simp at hc)
  ·have hat:=h.store.at hsb hle
   obtain⟨us,u1,u2,u3⟩:=hat.od
   have hfl:Fl (views (AB.sub cs off (k*sz))):=by obtain⟨_,_,_,hf⟩:=hat;exact hf
   have hlen:(views (AB.sub cs off (k*sz))).length=k*sz:=by simp only[views,List.length_map];exact j7 hle
   exact grow _ us e1 (by rw[u1,hlen]) hlen hfl (qA _) (run_firstCells_some w.drew sz k ⟨b,off,none⟩ k cap us (by rw[u1,hlen]) u2) u3
 ·rcases hold with⟨_,rfl⟩|⟨cs,hsb,hle,rfl⟩
  ·exact grow none [] e1 (by simp) (by simp) Fl.nil rfl (by simp[Builtin.firstCells]) (fun j c u hc=>by simp at hc)
  ·have:views (AB.sub cs off (0*sz))=[]:=by simp[AB.sub,views]
   rw[this]at grow
   exact grow none [] e1 (by simp) (by simp) Fl.nil rfl (by simp[Builtin.firstCells]) (fun j c u hc=>by simp at hc)
end
end Go.AB
end
