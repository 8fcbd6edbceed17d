/- A part of the proof: Xw, Xy, Vx, Open1. -/
import Derived.Test.YtkeagffgdajggaaGreatNu26
import Derived.Test.YtkeagffgdajggaaGreatNu13
import Derived.Test.YtkeagffgdajggaaGreatNu24
import Derived.Test.YtkeagffgdajggaaGreatNu10
import Derived.ProofKit
import Derived.OpenShut
set_option linter.unusedSimpArgs false
set_option linter.unusedVariables false
section
set_option linter.unusedSimpArgs false
set_option maxRecDepth 20000
namespace Go.AB
open Go
section
variable{n:Nat}{E:Int->Int}{d e:aH}
theorem pc.typed(S:pc n E d e){k:Int}(hk:lu n k)(name:aw):lP (ay e (E k)) name=lP (ay d k) name:=by rw[S.get k hk];exact Ty (S.gd hk) name
theorem pc.node(S:pc n E d e){k:Int}(hk:lu n k):isNode (ay e (E k))=isNode (ay d k)/\(isNode (ay d k)=true->c7 (ay e (E k))=c7 (ay d k)/\df (ay e (E k))=(df (ay d k)).map E/\∀m∈df (ay d k),lu n m):=by rw[S.get k hk];exact adE (S.gd hk)
theorem XL(S:pc n E d e):∀(l:List Int)(p:Int),(∀x∈l,lu n x)->pick e (l.map E) p=(pick d l p).map fun r=>(E r.1,r.2)
 |[],_,_=>rfl
 |m::l,p,h=>by
  have hm:=h m List.mem_cons_self
  obtain⟨n1,n2⟩:=S.node hm
  rw[List.map_cons,pick,pick,n1]
  by_cases hn:isNode (ay d m)=true
  ·rw[if_pos hn,if_pos hn,(n2 hn).1]
   split
   ·rfl
   ·exact XL S l _ fun x hx=>h x (List.mem_cons_of_mem _ hx)
  ·rw[if_neg hn,if_neg hn];rfl
def acj(n:Nat)(E:Int->Int)(a b:aL×Int):Prop:=(a.2≠0/\b.2=a.2)\/(a.2=0/\b.2=0/\b.1.eA=E a.1.eA/\b.1.an=mV n E a.1.an/\lu n a.1.eA/\Gd n a.1.an)
def GG(n:Nat)(g:Gv):Prop:=∀x,(g.c=some x\/g.m=some x\/g.r=some x\/g.t=some x)->Gd n x/\jQ x
theorem adh{l:List Int}{p:Int}(h0:0<=p)(h:p<l.length):ix (l.map E) p=E (ix l p)/\ix l p∈l:=by
 obtain⟨k,rfl⟩:∃k:Nat,p=(k:Int):=⟨p.toNat,by omega⟩
 have hk:k<l.length:=by omega
 rw[cQ hk,cQ (by rw[List.length_map];exact hk),List.getElem_map]
 exact⟨rfl,List.getElem_mem hk⟩
theorem MQ(S:pc n E d e):∀(k:Nat)(m p:Int)(path abL:List Int)(g:Gv),lu n m->isNode (ay d m)=true->0<=p->p<c7 (ay d m)->GG n g->acj n E (lU d k m p path g) (lU e k (E m) p abL (mG n E g))
 |0,_,_,_,_,_,_,_,_,_,_=>.inl ⟨by show(24:Int)≠0;decide,rfl⟩
 |k+1,m,p,path,abL,g,hm,hn,h0,hp,hg=>by
  obtain⟨n1,n2⟩:=S.node hm
  obtain⟨c1,c2,c3⟩:=n2 hn
  have hv:(ay e (E m)).V=mV n E (ay d m).V:=by rw[S.get m hm];rfl
  have gv:=S.gd hm
  have g2:GG n (g.iU (ay d m).V):=Zd hg gv (S.fd.V2 m)
  have eg:(mG n E g).iU (ay e (E m)).V=mG n E (g.iU (ay d m).V):=by rw[hv];exact acS g gv
  rw[lU,lU,c1,c2,eg,List.length_map]
  split
  ·rename_i hc
   obtain⟨i1,i2⟩:=adh (E:=E) h0 (show p<(df (ay d m)).length by omega)
   have hk:=c3 _ i2
   obtain⟨k1,k2⟩:=S.node hk
   rw[i1,S.typed hk,k1]
   have hvk:(ay e (E (ix (df (ay d m)) p))).V=mV n E (ay d (ix (df (ay d m)) p)).V:=by rw[S.get _ hk];rfl
   by_cases ht:lP (ay d (ix (df (ay d m)) p)) KP=true
   ·rw[if_pos ht,if_pos ht]
    have hl:GdG n ((g.iU (ay d m).V).leave (ay d (ix (df (ay d m)) p)).V):=WN g2
    obtain⟨w1,w2⟩:=SG (Gv.len _) hl
    refine .inr ⟨rfl,rfl,rfl,?_,hk,w1,w2⟩
    show((mG n E (g.iU (ay d m).V)).leave (ay e (E (ix (df (ay d m)) p))).V).v=mV n E ((g.iU (ay d m).V).leave (ay d (ix (df (ay d m)) p)).V).v
    rw[hvk,ZD _ (S.gd hk),v_m hl]
   ·rw[if_neg ht,if_neg ht]
    by_cases hkn:isNode (ay d (ix (df (ay d m)) p))=true
    ·rw[(k2 hkn).1]
     split
     ·rename_i h1
      exact MQ S k _ 0 _ _ _ hk hkn (by omega) (by omega) g2
     ·exact .inl ⟨by show(24:Int)≠0;decide,rfl⟩
    ·rw[if_neg fun h=>hkn h.1,if_neg fun h=>hkn h.1]
     exact .inl ⟨by show(24:Int)≠0;decide,rfl⟩
  ·rw[XL S _ p c3]
   cases hpk:pick d (df (ay d m)) p with
   |none=>exact .inl ⟨by show(24:Int)≠0;decide,rfl⟩
   |some r=>
    obtain⟨m',q⟩:=r
    obtain⟨q1,q2,q3,q4⟩:=xh h0 hpk
    exact MQ S k m' q _ _ _ (c3 _ q1) q2 q3 q4 g2
theorem Z2(S:pc n E d e)(p:Int):acj n E (kQ ⟨0,d⟩ p) (kQ ⟨0,e⟩ p):=by
 have hr:=S.aek
 have gr:=S.gd hr
 have hv:(ay e (E d.cM)).V=mV n E (ay d d.cM).V:=by rw[S.get _ hr];rfl
 obtain⟨e1,hg⟩:=mH (E:=E) gr nZ
 have er:isRoot (ay e (E d.cM))=isRoot (ay d d.cM):=by
  unfold isRoot
  rw[S.typed hr,hv,e1]
  show(_&&((mV n E (cP (ay d d.cM).V nZ).1).Kind==8))=_
  rw[qo hg]
 show acj n E (if isRoot (ay d d.cM)=true then(if isNode (ay d (oc ⟨0,d⟩))=true then(if 0<=p/\p<c7 (ay d (oc ⟨0,d⟩))then lU d 64 (oc ⟨0,d⟩) p [] ⟨none,none,none,none⟩else(jY,25))else(jY,24))else(jY,23))
  (if isRoot (ay e e.cM)=true then(if isNode (ay e (oc ⟨0,e⟩))=true then(if 0<=p/\p<c7 (ay e (oc ⟨0,e⟩))then lU e 64 (oc ⟨0,e⟩) p [] ⟨none,none,none,none⟩else(jY,25))else(jY,24))else(jY,23))
 rw[S.root,er]
 by_cases h1:isRoot (ay d d.cM)=true
 ·rw[if_pos h1,if_pos h1]
  have h8:(cP (ay d d.cM).V nZ).1.Kind=8:=by
   unfold isRoot at h1
   simp at h1
   exact h1.2
  have ht:lu n (oc ⟨0,d⟩):=hg.ref h8
  have et:oc ⟨0,e⟩=E (oc ⟨0,d⟩):=by
   show(cP (ay e e.cM).V nZ).1.N=_
   rw[S.root,hv,e1]
   show(mV n E (cP (ay d d.cM).V nZ).1).N=_
   rw[Rv hg h8];rfl
  obtain⟨n1,n2⟩:=S.node ht
  rw[et,n1]
  by_cases h2:isNode (ay d (oc ⟨0,d⟩))=true
  ·rw[if_pos h2,if_pos h2,(n2 h2).1]
   by_cases h3:0<=p/\p<c7 (ay d (oc ⟨0,d⟩))
   ·rw[if_pos h3,if_pos h3]
    exact MQ S 64 _ p [] [] ⟨none,none,none,none⟩ ht h2 h3.1 h3.2 fun x hx=>by rcases hx with h|h|h|h<;>cases h
   ·rw[if_neg h3,if_neg h3]
    exact .inl ⟨by show(25:Int)≠0;decide,rfl⟩
  ·rw[if_neg h2,if_neg h2]
   exact .inl ⟨by show(24:Int)≠0;decide,rfl⟩
 ·rw[if_neg h1,if_neg h1]
  exact .inl ⟨by show(23:Int)≠0;decide,rfl⟩
theorem Vd(S:Fh n E){l:List Int}{N:Int}(hl:∀x∈l,lu n x)(hN:lu n N):dC (l.map E) (E N)=(dC l N).map E:=by
 have:(l.map E).contains (E N)=l.contains N:=by
  rw[Bool.eq_iff_iff,List.contains_iff_mem,List.contains_iff_mem,List.mem_map]
  constructor
  ·rintro⟨x,hx,h⟩;rw[<-S.inj x N (hl x hx) hN h];exact hx
  ·intro h;exact⟨N,h,rfl⟩
 unfold dC
 rw[this]
 split
 ·rfl
 ·rw[List.map_append];rfl
theorem Q6(S:Fh n E):∀{xs l:List Int},(∀x∈l,lu n x)->(∀x∈xs,lu n x)->(xs.map E).foldl dC (l.map E)=(xs.foldl dC l).map E/\∀x∈xs.foldl dC l,lu n x
 |[],l,hl,_=>⟨rfl,hl⟩
 |x::xs,l,hl,hx=>by
  have h0:=hx x List.mem_cons_self
  have h1:∀y∈dC l x,lu n y:=fun y hy=>by
   rcases uD.1 hy with h|rfl
   ·exact hl y h
   ·exact h0
  rw[List.map_cons,List.foldl_cons,List.foldl_cons,Vd S hl h0]
  exact Q6 S h1 fun y hy=>hx y (List.mem_cons_of_mem _ hy)
theorem Tk(S:Fh n E):∀(m:Nat)(v:aa)(l:List Int),W m v->In n m v->(∀x∈l,lu n x)->cT m (dH (gS n E) m v) (l.map E)=(cT m v l).map E/\∀x∈cT m v l,lu n x
 |0,_,_,h,_,_=>h.elim
 |m+1,v,l,hw,hi,hl=>by
  by_cases h8:v.Kind=8
  ·have hN:=hi.1 h8
   have e8:(v.Kind==8)=true:=by rw[h8];rfl
   have e1:dH (gS n E) (m+1) v=⟨8,E v.N,⟨[]⟩,[]⟩:=by rw[dH,if_pos e8,V0 hN]
   rw[e1,cT,cT,if_pos e8]
   have:((8:Int)==8)=true:=rfl
   rw[if_pos (show((⟨8,E v.N,⟨[]⟩,[]⟩:aa).Kind==8)=true from rfl)]
   refine⟨Vd S hl hN,fun x hx=>?_⟩
   rcases uD.1 hx with h|rfl
   ·exact hl x h
   ·exact hN
  ·have e8:¬(v.Kind==8)=true:=by simpa using h8
   by_cases hk:v.Kind=6\/v.Kind=7
   ·have ek:((v.Kind==6)||(v.Kind==7))=true:=by simpa using hk
    have e1:dH (gS n E) (m+1) v=⟨v.Kind,v.N,v.S,v.L.map (dH (gS n E) m)⟩:=by rw[dH,if_neg e8,if_pos ek]
    rw[e1,cT,cT,if_neg e8,if_pos ek]
    rw[if_neg (show¬((⟨v.Kind,v.N,v.S,v.L.map (dH (gS n E) m)⟩:aa).Kind==8)=true from e8),if_pos (show(((⟨v.Kind,v.N,v.S,v.L.map (dH (gS n E) m)⟩:aa).Kind==6)||((⟨v.Kind,v.N,v.S,v.L.map (dH (gS n E) m)⟩:aa).Kind==7))=true from ek)]
    have key:∀(L:List aa)(l:List Int),(∀x∈L,W m x)->(∀x∈L,In n m x)->(∀x∈l,lu n x)->(L.map (dH (gS n E) m)).foldl (fun l x=>cT m x l) (l.map E)=(L.foldl (fun l x=>cT m x l) l).map E/\∀x∈L.foldl (fun l x=>cT m x l) l,lu n x:=by
     intro L
     induction L with
     |nil=>intro l _ _ hl;exact⟨rfl,hl⟩
     |cons a L ih=>
      intro l h1 h2 hl
      obtain⟨r1,r2⟩:=Tk S m a l (h1 a List.mem_cons_self) (h2 a List.mem_cons_self) hl
      rw[List.map_cons,List.foldl_cons,List.foldl_cons,r1]
      exact ih _ (fun x hx=>h1 x (List.mem_cons_of_mem _ hx)) (fun x hx=>h2 x (List.mem_cons_of_mem _ hx)) r2
    exact key v.L l hw.2 (hi.2 hk) hl
   ·have ek:¬((v.Kind==6)||(v.Kind==7))=true:=by simpa using hk
    have e1:dH (gS n E) (m+1) v=v:=by rw[dH,if_neg e8,if_neg ek]
    rw[e1,cT,if_neg e8,if_neg ek,cT,if_neg e8,if_neg ek]
    exact⟨rfl,hl⟩
theorem Gd.w2{v:aa}(h:Gd n v):W 302 v:=uC 301 302 _ (by decide) h.w
theorem aiK(S:Fh n E){v:aa}(h:Gd n v):lW (mV n E v)=(lW v).map E/\∀x∈lW v,lu n x:=Tk S 302 v [] h.w2 h.r fun x hx=>by cases hx
theorem O8(hn:n<=40){l:List Int}(h:∀x∈l,lu n x):kept l=l:=by
 unfold kept
 rw[List.filter_eq_self]
 intro x hx
 have:=h x hx
 unfold lu at this
 unfold gone
 simp
 omega
theorem WJ(S:Fh n E){v:aa}(h:Gd n v):kept (lW (mV n E v))=(kept (lW v)).map E/\∀x∈kept (lW v),lu n x:=by
 obtain⟨r1,r2⟩:=aiK S h
 have k1:=O8 S.few r2
 have k2:kept ((lW v).map E)=(lW v).map E:=O8 S.few fun x hx=>by
  obtain⟨y,hy,rfl⟩:=List.mem_map.1 hx
  exact S.YL y (r2 y hy)
 rw[r1,k1,k2];exact⟨rfl,r2⟩
theorem SI{v:aa}(h:Gd n v):iZ (mV n E v)=mV n E (iZ v)/\Gd n (iZ v):=by
 obtain⟨r,r1,r2,r3⟩:=ka v lJ h.small
 have r4:=(VQ (E:=E) h lJ).trans r1
 have hl0:v.L.length<=300:=h.w.1
 by_cases h0:r<0
 ·have e1:bS v lJ=some v:=aB r1 (aU (decide_eq_true h0) rfl)
  have e2:bS (mV n E v) lJ=some (mV n E v):=aB r4 (aU (decide_eq_true h0) rfl)
  unfold iZ
  rw[e1,e2]
  exact⟨rfl,h⟩
 ·have h7:v.Kind=7:=by
   apply Classical.byContradiction
   intro h7
   have:bX v lJ=some (-1):=aU (by simpa using h7) rfl
   rw[this]at r1
   injection r1 with r1
   omega
  have hm:=pM (n:=n) (E:=E) h.w (.inr h7)
  have e1:bS v lJ=some ⟨v.Kind,v.N,v.S,v.L.take r.toNat++v.L.drop (min (r.toNat+2) v.L.length)⟩:=aB r1 (aF (by simpa using h0) (az (by unfold room;omega) rfl))
  have e2:bS (mV n E v) lJ=some ⟨v.Kind,v.N,v.S,(v.L.map (mV n E)).take r.toNat++(v.L.map (mV n E)).drop (min (r.toNat+2) v.L.length)⟩:=by
   refine aB r4 (aF (by simpa using h0) (az (by rw[hm];dsimp only;rw[List.length_map];unfold room;omega) ?_))
   rw[hm];dsimp only;rw[List.length_map]
  unfold iZ
  rw[e1,e2]
  generalize hK:min (r.toNat+2) v.L.length=K
  have eD:∀x∈v.L.take r.toNat++v.L.drop K,x∈v.L:=fun x hx=>by
   rcases List.mem_append.1 hx with h|h
   ·exact List.mem_of_mem_take h
   ·exact List.mem_of_mem_drop h
  have hlen:(v.L.take r.toNat++v.L.drop K).length<=300:=by rw[List.length_append,List.length_take,List.length_drop];omega
  have hgd:Gd n ⟨v.Kind,v.N,v.S,v.L.take r.toNat++v.L.drop K⟩:=⟨⟨hlen,fun x hx=>h.w.2 x (eD x hx)⟩,h.r.1,fun hk x hx=>h.r.2 hk x (eD x hx)⟩
  refine⟨?_,hgd⟩
  show(⟨v.Kind,v.N,v.S,(v.L.map (mV n E)).take r.toNat++(v.L.map (mV n E)).drop K⟩:aa)=mV n E ⟨v.Kind,v.N,v.S,v.L.take r.toNat++v.L.drop K⟩
  rw[pM hgd.w (.inr h7),List.map_append,List.map_take,List.map_drop]
theorem OF{v g:aa}(h:im v)(hg:im g):fy v g=some ((kept (lW g)).foldl dC (kept (lW (iZ v)))):=by
 obtain⟨d1,d2,d3⟩:=Ah h
 have l1:=nF (lW (iZ v))
 have l2:=nF (lW g)
 have l3:=na d3
 have l4:=na hg
 have hnd:(kept (lW (iZ v))).Nodup:=(nQ 302 _ [] List.nodup_nil).filter _
 have e0:(kept (lW (iZ v))).foldl dC []=kept (lW (iZ v)):=Am _ [] (by simpa using hnd)
 obtain⟨m1,p1,p2⟩:=put_eq [] [] (kept (lW (iZ v))) (fun k=>rfl) (by unfold room;simp only[List.length_nil];omega)
 rw[e0]at p1 p2
 obtain⟨m2,p3,p4⟩:=put_eq m1 (kept (lW (iZ v))) (kept (lW g)) p2 (by unfold room;omega)
 exact aB d1 (aB (sS d3) (aB p1 (aB (sS hg) (aB p3 rfl))))
theorem adC(S:pc n E d e){g:aa}(hg:Gd n g)(f1:im g)(f2:im (mV n E g))(k:Nat){N:Int}(hN:lu n N):news e (mV n E g) k (E N)=(news d g k N).map E/\∀x∈news d g k N,lu n x:=by
 have gv:=S.gd hN
 have hv:(ay e (E N)).V=mV n E (ay d N).V:=by rw[S.get N hN];rfl
 unfold news
 split
 ·have h2:=OF (S.fe.get (E N)) f2
  rw[hv]at h2⊢
  rw[h2,OF (S.fd.get N) f1]
  obtain⟨e1,g1⟩:=SI (E:=E) gv
  obtain⟨a1,a2⟩:=WJ S.t g1
  obtain⟨b1,b2⟩:=WJ S.t hg
  show(kept (lW (mV n E g))).foldl dC (kept (lW (iZ (mV n E (ay d N).V))))=((kept (lW g)).foldl dC (kept (lW (iZ (ay d N).V)))).map E/\_
  rw[e1,a1,b1]
  exact Q6 S.t a2 b2
 ·rw[hv];exact WJ S.t gv
theorem X9(S:pc n E d e){g:aa}(hg:Gd n g)(f1:im g)(f2:im (mV n E g)){p:Int}(hp:lu n p):∀k,dU e (mV n E g) (E p) k=(dU d g p k).map E/\∀x∈dU d g p k,lu n x
 |0=>⟨rfl,fun x hx=>by rw[List.mem_singleton.1 (show x∈[p] from hx)];exact hp⟩
 |k+1=>by
  obtain⟨i1,i2⟩:=X9 S hg f1 f2 hp k
  rw[dU,dU,i1,List.length_map]
  split
  ·rename_i hk
   have e1:((dU d g p k).map E).getD k 0=E ((dU d g p k).getD k 0):=by rw[List.getD_eq_getElem?_getD,List.getD_eq_getElem?_getD,List.getElem?_eq_getElem hk,List.getElem?_eq_getElem (by rw[List.length_map];exact hk),List.getElem_map];rfl
   have hN:lu n ((dU d g p k).getD k 0):=by rw[List.getD_eq_getElem?_getD,List.getElem?_eq_getElem hk];exact i2 _ (List.getElem_mem hk)
   obtain⟨m1,m2⟩:=adC S hg f1 f2 k hN
   rw[e1,m1]
   exact Q6 S.t i2 m2
  ·exact⟨rfl,i2⟩
theorem VT(S:Fh n E):∀{row:List Int}{N:Int},(∀x∈row,lu n x)->lu n N->mw (row.map E) (E N)=mw row N:=by
 intro row N hr hN
 have key:(row.map E).findIdx? (fun x=>x==E N)=row.findIdx? (fun x=>x==N):=by
  induction row with
  |nil=>rfl
  |cons a row ih=>
   rw[List.map_cons,List.findIdx?_cons,List.findIdx?_cons,ih fun x hx=>hr x (List.mem_cons_of_mem _ hx)]
   have:(E a==E N)=(a==N):=by
    rw[Bool.eq_iff_iff,beq_iff_eq,beq_iff_eq]
    exact⟨fun h=>S.inj a N (hr a List.mem_cons_self) hN h,fun h=>by rw[h]⟩
   rw[this]
 unfold mw
 rw[key]
theorem XM(S:Fh n E){row:List Int}{N:Int}(hr:∀x∈row,lu n x)(hN:lu n N):iJ (row.map E) (E N)=iJ row N:=by
 have h1:=S.YL N hN
 have h2:=S.few
 unfold lu at hN h1
 unfold iJ
 rw[if_pos (by simp;omega),if_pos (by simp;omega)]
 exact VT S hr hN
theorem Yo(S:Fh n E){row:List Int}(hr:∀x∈row,lu n x):∀(m:Nat)(v:aa),W m v->In n m v->dH (fun k=>nP (iJ (row.map E) k)) m (dH (gS n E) m v)=dH (fun k=>nP (iJ row k)) m v
 |0,_,h,_=>h.elim
 |m+1,v,hw,hi=>by
  by_cases h8:v.Kind=8
  ·have hN:=hi.1 h8
   have e8:(v.Kind==8)=true:=by rw[h8];rfl
   have e1:dH (gS n E) (m+1) v=⟨8,E v.N,⟨[]⟩,[]⟩:=by rw[dH,if_pos e8,V0 hN]
   rw[e1,dH,dH,if_pos e8,if_pos (show((⟨8,E v.N,⟨[]⟩,[]⟩:aa).Kind==8)=true from rfl)]
   show nP (iJ (row.map E) (E v.N))=nP (iJ row v.N)
   rw[XM S hr hN]
  ·have e8:¬(v.Kind==8)=true:=by simpa using h8
   by_cases hk:v.Kind=6\/v.Kind=7
   ·have ek:((v.Kind==6)||(v.Kind==7))=true:=by simpa using hk
    have e1:dH (gS n E) (m+1) v=⟨v.Kind,v.N,v.S,v.L.map (dH (gS n E) m)⟩:=by rw[dH,if_neg e8,if_pos ek]
    rw[e1,dH,dH,if_neg e8,if_pos ek,if_neg (show¬((⟨v.Kind,v.N,v.S,v.L.map (dH (gS n E) m)⟩:aa).Kind==8)=true from e8),if_pos (show(((⟨v.Kind,v.N,v.S,v.L.map (dH (gS n E) m)⟩:aa).Kind==6)||((⟨v.Kind,v.N,v.S,v.L.map (dH (gS n E) m)⟩:aa).Kind==7))=true from ek)]
    show(⟨v.Kind,v.N,v.S,(v.L.map (dH (gS n E) m)).map (dH (fun k=>nP (iJ (row.map E) k)) m)⟩:aa)=_
    have hm:v.L.map (dH (fun k=>nP (iJ (row.map E) k)) m∘dH (gS n E) m)=v.L.map (dH (fun k=>nP (iJ row k)) m):=List.map_congr_left fun x hx=>Yo S hr m x (hw.2 x hx) (hi.2 hk x hx)
    rw[List.map_map,hm]
   ·have ek:¬((v.Kind==6)||(v.Kind==7))=true:=by simpa using hk
    have e1:dH (gS n E) (m+1) v=v:=by rw[dH,if_neg e8,if_neg ek]
    rw[e1,dH,if_neg e8,if_neg ek,dH,if_neg e8,if_neg ek]
theorem ND(S:Fh n E){row:List Int}(hr:∀x∈row,lu n x){v:aa}(h:Gd n v):Ig (row.map E) (mV n E v)=Ig row v:=Yo S hr 302 v h.w2 h.r
theorem aiO(S:pc n E d e){g:aa}(hg:Gd n g)(f1:im g)(f2:im (mV n E g)){p:Int}(hp:lu n p):NM e (mV n E g) (E p)=(NM d g p).map E/\∀x∈NM d g p,lu n x:=by unfold NM;exact X9 S hg f1 f2 hp _
theorem aaJ(S:pc n E d e)(p:Int):tZ e p=tZ d p:=by
 have hf:=Z2 S p
 have g1:=xf ⟨0,d⟩ S.fd p
 have g2:=xf ⟨0,e⟩ S.fe p
 unfold tZ
 generalize kQ ⟨0,d⟩ p=a at hf g1
 generalize kQ ⟨0,e⟩ p=b at hf g2
 rcases hf with⟨h1,h2⟩|⟨h1,h2,h3,h4,h5,h6⟩
 ·rw[if_neg h1,if_neg (by rw[h2];exact h1),h2]
 ·rw[if_pos h1,if_pos h2,h3,h4]
  rw[h4]at g2
  obtain⟨r1,r2⟩:=aiO S h6 g1 g2 h5
  rw[r1]
  generalize NM d a.1.an a.1.eA=row at r2
  have ho:ku e (row.map E)=(ku d row).map (mO n E):=by
   unfold ku
   rw[List.map_map,List.map_map]
   exact List.map_congr_left fun x hx=>S.get x (r2 x hx)
  rw[ho]
  have hpg:Du (row.map E) ((ku d row).map (mO n E)) (mV n E a.1.an)=Du row (ku d row) a.1.an:=by
   suffices hK:Bh (row.map E) ((ku d row).map (mO n E)) (ku d row).length=Bh row (ku d row) (ku d row).length by
    unfold Du
    rw[ND S.t r2 h6,List.length_map,hK]
   unfold Bh
   refine List.map_congr_left fun k hk=>?_
   have hk:=List.mem_range.1 hk
   have hk':k<row.length:=by unfold ku at hk;rw[List.length_map]at hk;exact hk
   rw[cQ hk,cQ (by rw[List.length_map];exact hk),List.getElem_map]
   have e0:(ku d row)[k]=ay d row[k]:=List.getElem_map ..
   rw[e0]
   have gv:=S.gd (r2 _ (List.getElem_mem hk'))
   generalize ay d row[k]=o at gv
   unfold aej
   show(⟨Ig (row.map E) (if k=0 then iZ (mV n E o.V)else mV n E o.V),o.Stream,o.Data⟩:ag)=_
   obtain⟨d1,d2⟩:=SI (E:=E) gv
   split
   ·rw[d1,ND S.t r2 d2]
   ·rw[ND S.t r2 gv]
  rw[hpg]
end
end Go.AB
end
section
set_option linter.unusedSimpArgs false
set_option maxRecDepth 20000
namespace Go.AB
open Go
theorem map_eq(to:List Int)(hl:to.length<=1000000):∀(n:Nat)(v:aa)(fuel:Nat),W n v->n<=fuel->n<=1000->oU fuel v to=some (dH (gS to.length fun k=>ix to (k -1)) n v)
 |0,_,_,h,_,_=>h.elim
 |n+1,_,0,_,h,_=>by omega
 |n+1,v,fuel+1,h,hf,hn=>by
  have hL:=h.1
  rw[oU,dH]
  by_cases h8:(v.Kind==8)=true
  ·rw[if_pos h8,if_pos h8]
   unfold gS
   by_cases hc:((decide (v.N<1))||(decide (v.N>(to.length:Int))))=true
   ·rw[if_pos hc,if_neg (by simp at hc⊢;omega)]
   ·rw[if_neg hc,if_pos (by simp at hc⊢;omega)]
    simp at hc
    rw[aI (by omega) (by omega)]
    exact az (by omega) rfl
  ·rw[if_neg h8,if_neg h8]
   have hh:eR v=some ((v.Kind==6)||(v.Kind==7)):=rfl
   rw[hh]
   by_cases h6:((v.Kind==6)||(v.Kind==7))=true
   ·rw[if_pos h6]
    refine jT (a:=⟨v.Kind,v.N,v.S,v.L.map (dH (gS to.length fun k=>ix to (k -1)) n)⟩) ?_ rfl
    refine aB rfl (aU h6 (jT (a:=v.L.map (dH (gS to.length fun k=>ix to (k -1)) n)) ?_ rfl))
    refine jd v.L.length (fun k=>(v.L.take k).map (dH (gS to.length fun k=>ix to (k -1)) n)) (by simp) (by omega) (fun k hk=>?_) ?_
    ·have hx:ix v.L (k:Int)=v.L[k]:=cQ hk
     refine aU (by simp;omega) (az (by omega) (aB (by rw[hx];exact map_eq to hl n v.L[k] fuel (h.2 _ (List.getElem_mem hk)) (by omega) (by omega)) (az (by simp;unfold room;omega) ?_)))
     rw[List.take_succ_eq_append_getElem hk,List.map_append];rfl
    ·refine aF (by simp) ?_
     rw[List.take_length]
   ·rw[if_neg h6]
    exact jT (a:=v) (aB rfl (aF h6 rfl)) rfl
theorem SE(g:Int->aa)(hg:∀n,(g n).L=[]):∀(m:Nat)(v:aa),mc m (dH g m v)<=mc m v
 |0,v=>Nat.le_refl _
 |m+1,v=>by
  have e:∀x:aa,mc (m+1) x=1+(x.L.map (mc m)).sum:=fun _=>rfl
  rw[dH]
  split
  ·rw[e,e,hg];simp
  ·split
   ·rw[e,e]
    show 1+((v.L.map (dH g m)).map (mc m)).sum<=_
    have key:∀L:List aa,((L.map (dH g m)).map (mc m)).sum<=(L.map (mc m)).sum:=by
     intro L
     induction L with
     |nil=>exact Nat.le_refl _
     |cons a L ih=>
      have:=SE g hg m a
      simp only[List.map_cons,List.sum_cons]
      omega
    have:=key v.L
    omega
   ·exact Nat.le_refl _
section
variable{n:Nat}{E:Int->Int}
theorem ZJ{v:aa}(h:jQ v):jQ (mV n E v):=by
 have e:mV n E v=dH (gS n E) 300 v:=ME _ 300 302 v (by decide) h.1
 rw[e]
 exact⟨zo _ (agQ n E) 300 v h.1,Nat.le_trans (SE _ (agQ n E) 300 v) h.2⟩
theorem Le:∀(m:Nat)(v:aa)(l:List Int),∀x∈l,x∈cT m v l
 |0,_,_,x,h=>h
 |m+1,v,l,x,h=>by
  rw[cT]
  split
  ·exact uD.2 (.inl h)
  ·split
   ·have key:∀(L:List aa)(l:List Int),x∈l->x∈L.foldl (fun l y=>cT m y l) l:=by
     intro L
     induction L with
     |nil=>intro l h;exact h
     |cons a L ih=>intro l h;rw[List.foldl_cons];exact ih _ (Le m a l x h)
    exact key v.L l h
   ·exact h
theorem P0:∀(m:Nat)(v:aa)(l:List Int),(∀x∈cT m v l,lu n x)->In n m v
 |0,_,_,_=>trivial
 |m+1,v,l,h=>by
  refine⟨fun h8=>?_,fun hk=>?_⟩
  ·rw[cT,if_pos (by rw[h8];rfl)]at h
   exact h _ (uD.2 (.inr rfl))
  ·have e8:¬(v.Kind==8)=true:=by simp;omega
   have ek:((v.Kind==6)||(v.Kind==7))=true:=by simpa using hk
   rw[cT,if_neg e8,if_pos ek]at h
   have key:∀(L:List aa)(l:List Int),(∀x∈L.foldl (fun l y=>cT m y l) l,lu n x)->(∀y∈L,In n m y)/\∀x∈l,lu n x:=by
    intro L
    induction L with
    |nil=>intro l h;exact⟨fun y hy=>(by cases hy),h⟩
    |cons a L ih=>
     intro l h
     rw[List.foldl_cons]at h
     obtain⟨i1,i2⟩:=ih _ h
     refine⟨fun y hy=>?_,fun x hx=>i2 x (Le m a l x hx)⟩
     rcases List.mem_cons.1 hy with rfl|hy
     ·exact P0 m y l i2
     ·exact i1 y hy
   exact(key v.L l h).1
structure Pm(n:Nat)(to:List Int):Prop where
 len:to.length=n
 YL:∀k(h:k<to.length),1<=to[k]/\to[k]<=n
 inj:∀a b(ha:a<to.length)(hb:b<to.length),to[a]=to[b]->a=b
theorem Pm.swap{to:List Int}(h:Pm n to){i j:Nat}(hi:i<to.length)(hj:j<to.length):Pm n ((to.set i to[j]).set j to[i]):=by
 have g:∀k(hk:k<((to.set i to[j]).set j to[i]).length),((to.set i to[j]).set j to[i])[k]=to[if k=j then i else if k=i then j else k]'(by rw[List.length_set,List.length_set]at hk;split;exact hi;split;exact hj;exact hk):=fun k hk=>by
  rw[List.getElem_set]
  by_cases e1:j=k
  ·subst e1;simp
  ·rw[if_neg e1,List.getElem_set]
   by_cases e2:i=k
   ·subst e2;rw[if_pos rfl];congr 1;rw[if_neg (fun e=>e1 e.symm),if_pos rfl]
   ·rw[if_neg e2];congr 1;rw[if_neg (fun e=>e1 e.symm),if_neg (fun e=>e2 e.symm)]
 refine⟨by rw[List.length_set,List.length_set];exact h.len,fun k hk=>by rw[g];exact h.YL _ _,fun a b ha hb e=>?_⟩
 rw[g,g]at e
 have:=h.inj _ _ _ _ e
 split at this<;>split at this<;>(try split at this)<;>(try split at this)<;>omega
theorem Pm.start(n:Nat):Pm n ((List.range n).map fun(i:Nat)=>(i:Int)+1):=by
 refine⟨by simp,fun k hk=>?_,fun a b ha hb e=>?_⟩
 ·rw[List.getElem_map,List.getElem_range];simp at hk;omega
 ·rw[List.getElem_map,List.getElem_map,List.getElem_range,List.getElem_range]at e;omega
theorem Pm.aeB{to:List Int}(h:Pm n to)(hn:n<=40):Fh n fun k=>ix to (k -1):=by
 have hx:∀k,lu n k->∃i,∃hi:i<to.length,k=(i:Int)+1/\ix to (k -1)=to[i]:=fun k hk=>by
  unfold lu at hk
  have:=h.len
  have hi:(k -1).toNat<to.length:=by omega
  refine⟨(k -1).toNat,hi,by omega,?_⟩
  have e:k -1=(((k -1).toNat:Nat):Int):=by omega
  exact(congrArg (ix to) e).trans (cQ hi)
 refine⟨hn,fun k hk=>?_,fun j k hj hk e=>?_⟩
 ·obtain⟨i,hi,_,e⟩:=hx k hk
  show lu n (ix to (k -1))
  rw[e];exact h.YL i hi
 ·obtain⟨i,hi,e1,e2⟩:=hx j hj
  obtain⟨i',hi',e3,e4⟩:=hx k hk
  have e:ix to (j -1)=ix to (k -1):=e
  rw[e2,e4]at e
  have:=h.inj _ _ _ _ e
  omega
theorem RF{d e:aH}{to:List Int}(hn:d.ae.length<=40)(ho:∀o∈d.ae,jQ o.V)(hr:1<=d.cM/\d.cM<=d.ae.length)(hrefs:∀o∈d.ae,∀x∈lW o.V,lu d.ae.length x)(hp:Pm d.ae.length to)
 (ahj:e.cM=ix to (d.cM -1))(hlen:e.ae.length=d.ae.length)(ahh:∀k(h:k<d.ae.length),ix e.ae (ix to (k:Int) -1)=mO d.ae.length (fun k=>ix to (k -1)) d.ae[k]):
 pc d.ae.length (fun k=>ix to (k -1)) d e:=by
 have ht:=hp.aeB hn
 have hd:k7 d:=⟨by omega,ho⟩
 have kg:∀k,lu d.ae.length k->ay e (ix to (k -1))=mO d.ae.length (fun k=>ix to (k -1)) (ay d k):=fun k hk=>by
  have h1:=ht.YL k hk
  unfold lu at hk h1
  have h1:1<=ix to (k -1)/\ix to (k -1)<=d.ae.length:=h1
  unfold ay
  rw[if_neg (by simp;omega),if_neg (by simp;omega)]
  obtain⟨i,rfl⟩:∃i:Nat,k=(i:Int)+1:=⟨(k -1).toNat,by omega⟩
  have hi:i<d.ae.length:=by omega
  have:=ahh i hi
  rw[show(i:Int)+1 -1=(i:Int) by omega,this,cQ hi]
 refine⟨ht,rfl,hd,⟨by omega,fun o h=>?_⟩,kg,ahj,hr,fun k hk=>?_⟩
 ·
  obtain⟨j,hj,rfl⟩:=List.getElem_of_mem h
  have hj':j<d.ae.length:=by omega
  obtain⟨k,hk,ek⟩:∃k,∃hk:k<to.length,to[k]=(j:Int)+1:=by
   apply Classical.byContradiction
   intro hno
   have hnd:(((j:Int)+1)::to).Nodup:=by
    rw[List.nodup_cons]
    refine⟨fun hm=>?_,?_⟩
    ·obtain⟨k,hk,e⟩:=List.getElem_of_mem hm
     exact hno ⟨k,hk,e⟩
    ·rw[List.nodup_iff_pairwise_ne,List.pairwise_iff_getElem]
     intro a b ha hb hab e
     have:=hp.inj a b ha hb e
     omega
   have:=Cq d.ae.length _ hnd fun m hm=>by
    rcases List.mem_cons.1 hm with rfl|hm
    ·omega
    ·obtain⟨k,hk,rfl⟩:=List.getElem_of_mem hm
     exact hp.YL k hk
   rw[List.length_cons,hp.len]at this
   omega
  have hk':k<d.ae.length:=by rw[<-hp.len];exact hk
  have h1:=ahh k hk'
  rw[cQ hk,ek,show(j:Int)+1 -1=(j:Int) by omega,cQ hj]at h1
  rw[h1]
  exact ZJ (ho _ (List.getElem_mem hk'))
 ·unfold ay
  unfold lu at hk
  rw[if_neg (by simp;omega)]
  obtain⟨i,rfl⟩:∃i:Nat,k=(i:Int)+1:=⟨(k -1).toNat,by omega⟩
  have hi:i<d.ae.length:=by omega
  rw[show(i:Int)+1 -1=(i:Int) by omega,cQ hi]
  exact P0 302 _ [] (hrefs _ (List.getElem_mem hi))
end
end Go.AB
end
section
set_option maxRecDepth 100000
namespace Go.AB
open Go
open Go.Proofs.Tryz (prog)
attribute[-go_sem] cE da bM cD Nat.add_zero nr bV
def nx:IC:=
 (af [i1 3 (.dc 2 (.t 0)),c6 6 (.bool false)] [1,2,3]
 (af [fa 24 0 3,ld 25 1 24,le 26 0 25,mv 7 26] [1,2,3,7]
 (.seq (af [fa 27 0 3,ld 28 1 27,i1 29 (.call 15 [(.t 28),(.c (.int .i64 40))]),no 30 29,mv 31 30,dh 32 2 31 false,dq 33 31 false (.len 0 (.t 32)),kS 34 31 false .gtr 33 100,po 35 31 34,mv 36 35,fg 37 36 false 1 3,lg 38 36 false 1 37,kS 39 36 false .lss 38 1,po 40 36 39,mv 41 40,fg 42 41 false 1 3,lg 43 41 false 1 42,dh 44 7 41 false,sY 45 41 false .gtr 43 44,po 46 41 45] [1,2,3,7,46]
 (.cond (.t 46) (af [i1 47 (.call 16 []),mv 6 47] [6]
 .ret)
 .skip))
 (af [mv 48 7,i1 49 (.fO 1 8 jV (.t 48) (.t 48)),mt 8 49] [1,2,3,7,8]
 (.seq (af [mi 9 0] [1,2,3,7,8,9]
 (.block 0 (.loop [(1,false),(2,false),(3,false),(7,false),(8,false),(9,false)] (.seq (af [mv 50 9,mv 51 7,bt 52 .lss 50 51] [1,2,3,7,8,9,52]
 (.cond (.t 52) .skip
 (.exit 0)))
 (.seq (.block 1 (af [mv 55 8,mv 56 9,mv 57 9,bn 58 .add 57 1,ia 59 jV 55 56,st 1 59 58] [1,2,3,7,8,9]
 (af [fa 60 0 3,ld 61 1 60,mv 62 9,ia 63 Qu 61 62,fa 64 0 63,lm 65 4 64,c1 66 26 65,mt 10 66] [1,2,3,7,8,9,10]
 (af [mi 11 0] [1,2,3,7,8,9,10,11]
 (.block 2 (.loop [(1,false),(2,false),(3,false),(7,false),(8,false),(9,false),(10,false),(11,false)] (.seq (af [mv 67 11,mv 68 10,le 69 0 68,bt 70 .lss 67 69] [1,2,3,7,8,9,10,11,70]
 (.cond (.t 70) .skip
 (.exit 2)))
 (.seq (.block 3 (af [mv 73 10,mv 74 11,ia 75 jV 73 74,ld 76 1 75,bn 77 .lss 76 1,mv 78 77,dh 79 10 78 false,dh 80 11 78 false,dq 81 78 false (.indexAddr jV (.t 79) (.t 80)),lg 82 78 false 1 81,dh 83 7 78 false,sY 84 78 false .gtr 82 83,po 85 78 84] [1,2,3,7,8,9,10,11,85]
 (.cond (.t 85) (af [i1 86 (.call 16 []),mv 6 86] [6]
 .ret)
 .skip)))
 (.bN none [mv 71 11,bn 72 .add 71 1,mv 11 72] [1,2,3,7,8,9,10,11])))))))))
 (.bN none [mv 53 9,bn 54 .add 53 1,mv 9 54] [1,2,3,7,8,9]))))))
 (.seq (af [mi 12 0] [1,2,3,7,8,12]
 (.block 4 (.loop [(1,false),(2,false),(3,false),(7,false),(8,false),(12,false)] (.seq (af [mv 87 12,bn 88 .add 87 1,mv 89 2,le 90 0 89,bt 91 .lss 88 90] [1,2,3,7,8,12,91]
 (.cond (.t 91) .skip
 (.exit 4)))
 (.seq (.block 5 (.seq (.bN (some 17) [mv 94 2,mv 95 12,ia 96 [.int .u8 0] 94 95,ld 97 1 96,i1 98 (.jI .i64 (.t 97)),mv 99 7,bt 100 .rem 98 99,mv 101 2,mv 102 12,bn 103 .add 102 1,ia 104 [.int .u8 0] 101 103,ld 105 1 104,i1 106 (.jI .i64 (.t 105)),mv 107 7,bt 108 .rem 106 107,mv 13 100,mv 14 108] [1,2,3,7,8,12,13,14])
 (.HM [] [(0,0,mv 109 8),(0,1,mv 110 13),(1,2,mv 111 8),(1,3,mv 112 14),(0,4,mv 113 8),(0,5,mv 114 14),(0,6,ia 115 jV 113 114),(0,7,ld 116 1 115),(0,8,mv 117 8),(0,9,mv 118 13),(0,10,ia 119 jV 117 118),(0,11,ld 120 1 119),(0,12,ia 121 jV 109 110),(2,13,st 1 121 116),(0,14,ia 122 jV 111 112),(2,15,st 1 122 120)] [1,2,3,7,8,12])))
 (.bN none [mv 92 12,bn 93 .add 92 2,mv 12 93] [1,2,3,7,8,12]))))))
 (.seq (.HM [15] [(1,0,mv 123 7),(1,2,mv 125 8),(1,3,fa 126 1 3),(1,4,ld 127 1 126),(1,5,bn 128 .sub 127 1),(1,6,ia 129 jV 125 128),(1,9,i1 15 (.aq [.sl true 6 0 [],.int .i64 0])),(0,7,ld 130 1 129),(2,1,i1 124 (.fO 6 80 Qu (.t 123) (.t 123))),(0,8,i1 131 (.build [.sl true 6 0 [],.int .i64 0] [(0,1,(.t 124)),(1,1,(.t 130))])),(0,10,st 2 15 131)] [1,3,7,8,15])
 (.seq (af [mi 16 0] [1,3,7,8,15,16]
 (.block 6 (.loop [(1,false),(3,false),(7,false),(8,false),(15,false),(16,false)] (.seq (af [mv 132 16,mv 133 7,bt 134 .lss 132 133] [1,3,7,8,15,16,134]
 (.cond (.t 134) .skip
 (.exit 6)))
 (.seq (.block 7 (af [fa 137 0 3,ld 138 1 137,mv 139 16,ia 140 Qu 138 139,lm 141 6 140,i1 17 (.aq zz),st 6 17 141] [1,3,7,8,15,16,17]
 (af [fa 142 0 17,lm 143 4 142,mv 144 8,c2 145 27 143 144,fa 146 0 17,st 4 146 145] [1,3,7,8,15,16,17]
 (.bN (some 9) [fa 147 0 15,ld 148 1 147,mv 149 8,mv 150 16,ia 151 jV 149 150,ld 152 1 151,bn 153 .sub 152 1,lm 154 6 17,ia 155 Qu 148 153,st 6 155 154] [1,3,7,8,15,16]))))
 (.bN none [mv 135 16,bn 136 .add 135 1,mv 16 136] [1,3,7,8,15,16]))))))
 (af [lm 157 2 3,c1 158 18 157,mv 159 1,c2 160 17 158 159,iV 156 160,ex 161 156 0,ex 162 156 1,ex 163 156 2,i1 18 (.aq [.sl true 6 0 [],.int .i64 0,.int .i64 0,.str [],.sl true 4 0 []]),st 5 18 161,mv 19 162,mv 20 163] [1,15,18,20]
 (af [lm 165 2 15,c1 166 18 165,mv 167 1,c2 168 17 166 167,iV 164 168,ex 169 164 0,ex 170 164 1,ex 171 164 2,i1 21 (.aq [.sl true 6 0 [],.int .i64 0,.int .i64 0,.str [],.sl true 4 0 []]),st 5 21 169,mv 22 170,mv 23 171] [18,20,21,23]
 (.seq (.bN (some 10) [lm 172 5 18,lm 173 5 21,c2 174 21 172 173,mv 175 174,dh 176 20 175 true,dh 177 23 175 true,sY 178 175 true .eql 176 177,pf 179 175 178,mv 180 179,dq 181 180 true (.call 16 []),pf 182 180 181,mv 6 182] [6])
 .ret)))))))))))
theorem vE:aE prog 7 183 [⟨6,true,none⟩] nx=true:=by kernel_rfl
def xZ:IC:=
 (af [i1 2 (.dc 4 (.t 0)),i1 4 (.aq iA)] [1,2,4]
 (.seq (af [fa 7 0 2,ld 8 1 7,bn 9 .eql 8 8] [1,2,4,9]
 (.cond (.t 9) (.seq (af [fa 10 1 2,ld 11 1 10,bn 12 .lss 11 1,mv 13 12,fg 14 13 false 1 2,lg 15 13 false 1 14,dh 16 1 13 false,dq 17 13 false (.len 0 (.t 16)),sY 18 13 false .gtr 15 17,po 19 13 18] [1,2,4,19]
 (.cond (.t 19) (af [i1 20 (.build iA []),st 4 4 20] [4]
 .ret)
 .skip))
 (af [mt 21 1,fa 22 1 2,ld 23 1 22,bn 24 .sub 23 1,ia 25 jV 21 24,ld 26 1 25,i1 27 (.build iA [(0,1,(.c (.int .i64 8))),(1,1,(.t 26))]),st 4 4 27] [4]
 .ret))
 .skip))
 (.seq (af [lm 28 4 2,c1 29 60 28] [1,2,4,29]
 (.cond (.t 29) (af [i1 5 (.jL true (.c (.sl true 4 0 [])))] [1,2,4,5]
 (.seq (af [mi 6 0] [1,2,4,5,6]
 (.block 0 (.loop [(1,false),(2,false),(4,false),(5,false),(6,false)] (.seq (af [mv 30 6,fa 31 3 2,ld 32 1 31,le 33 0 32,bt 34 .lss 30 33] [1,2,4,5,6,34]
 (.cond (.t 34) .skip
 (.exit 0)))
 (.seq (.block 1 (.bN none [mt 37 5,fa 38 3 2,ld 39 1 38,mv 40 6,ia 41 qT 39 40,lm 42 4 41,mv 43 1,c2 44 27 42 43,i1 45 (.bq 4 1 iA [(0,4,(.t 44))]),UF 46 4 56 37 45,mt 5 46] [1,2,4,5,6]))
 (.bN none [mv 35 6,bn 36 .add 35 1,mv 6 36] [1,2,4,5,6]))))))
 (.bN none [mt 47 5,fa 48 3 2,st 1 48 47] [2,4])))
 .skip))
 (af [lm 49 4 2,st 4 4 49] [4]
 .ret))))
theorem Jf:aE prog 27 50 [⟨4,false,some (4,true)⟩] xZ=true:=by kernel_rfl
theorem Su{α β:Type}{o:Option α}{f:α->Option β}{r:β}(h:aW o f=some r):∃a,o=some a/\f a=some r:=by
 cases o with
 |none=>cases h
 |some a=>exact⟨a,rfl,h⟩
theorem WG{α β:Type}{o:Option α}{f:α->Option β}{r:β}(h:jn o f=some r):∃a,o=some a/\f a=some r:=by
 cases o with
 |none=>cases h
 |some a=>exact⟨a,rfl,h⟩
theorem PG{α:Type}{c:Prop}[Decidable c]{o:Option α}{r:α}(h:aG c o=some r):c/\o=some r:=by
 by_cases hc:c
 ·rw[dM hc]at h;exact⟨hc,h⟩
 ·unfold aG at h
  rw[if_neg hc]at h;cases h
theorem ZK{to:List Int}{s:ab}{b cap:Nat}(hs:s b=some (.cells (flat to)))(hto:to.length<1000000)(f:Nat):∀{v r:aa},oU f v to=some r->FE prog 27 [vA v,.arr b 0 to.length cap] s [vA r] s:=by
 induction f with
 |zero=>intro v r h;rw[oU]at h;cases h
 |succ f ihf=>
  intro v r h
  rw[oU]at h
  refine FO Jf rfl rfl ?_
  rw[xZ]
  unfold vA
  cases h8:(v.Kind==8)with
  |true=>
   rw[if_pos h8]at h
   cases h1:decide (v.N<1)with
   |true=>
    rw[h1,Bool.true_or,if_pos rfl]at h
    cases h
    simp -implicitDefEqProofs only[go_sem,seval,h8,h1,Bool.true_eq_false,Bool.false_eq_true,false_implies,true_implies,true_and,and_true,Bool.true_or]
   |false=>
    cases h2:decide (v.N>(to.length:Int))with
    |true=>
     rw[h1,h2,Bool.or_true,if_pos rfl]at h
     cases h
     simp -implicitDefEqProofs only[go_sem,seval,h8,h1,h2,Bool.true_eq_false,Bool.false_eq_true,false_implies,true_implies,true_and,and_true,Bool.true_or]
    |false=>
     have k1:¬v.N<1:=of_decide_eq_false h1
     have k2:¬v.N>(to.length:Int):=of_decide_eq_false h2
     have w1:bj (v.N -1)=v.N -1:=aI (by omega) (by omega)
     rw[h1,h2,Bool.or_false,if_neg (by decide),w1,dM ⟨by omega,by omega⟩]at h
     cases h
     obtain⟨r1,r2⟩:=R2 to [] (n:=1) rfl (j:=v.N -1) (by omega) (by omega)
     have r2:views (AB.sub (flat to++[]) ((v.N -1).toNat*1) 1)=[.int .i64 (ix to (v.N -1))]:=r2
     rw[List.append_nil]at r1 r2
     generalize hcs:flat to=cs at*
     have d1:=decide_eq_true r1
     simp -implicitDefEqProofs only[go_sem,seval,h8,h1,h2,hs,w1,r2,d1,Bool.true_eq_false,Bool.false_eq_true,false_implies,true_implies,true_and,and_true,Bool.true_or]
     first|exact⟨by omega,by omega⟩|trace_state
  |false=>
   have h8':¬(v.Kind==8)=true:=by rw[h8];decide
   rw[if_neg h8']at h
   obtain⟨w,hw,h⟩:=WG h
   cases h
   obtain⟨hh,e1,hw⟩:=Su hw
   simp -implicitDefEqProofs only[go_sem,seval,h8,Bool.true_eq_false,Bool.false_eq_true,false_implies,true_implies,true_and,and_true,Bool.true_or]
   refine FE.app (wm e1) ?_
   cases hh with
   |false=>
    cases hw
    simp -implicitDefEqProofs only[go_sem,seval,h8,Bool.true_eq_false,Bool.false_eq_true,false_implies,true_implies,true_and,and_true,Bool.true_or]
   |true=>
    obtain⟨l,hl,hw⟩:=WG hw
    cases hw
    simp -implicitDefEqProofs only[go_sem,seval,h8,Bool.true_eq_false,Bool.false_eq_true,false_implies,true_implies,true_and,and_true,Bool.true_or]
    refine bF (kf:=fun x=>x=l) (fun(q:List aa×Int)=>(⟨[(1,.arr b 0 to.length cap),(2,.loc [.int .i64 v.Kind,.int .i64 v.N,.str v.S.b,.sl false 4 v.L.length (flat v.L)]),(4,.loc [.int .i64 0,.int .i64 0,.str [],.sl true 4 0 []]),(5,.sl true 4 q.1.length (flat q.1)),(6,.int .i64 q.2)],[],s⟩:St)) rfl ?_ ⟨l,hl,rfl⟩
    rintro J ⟨l7,k8⟩ hb
    obtain⟨x,hx,hb⟩:=hb
    cases hlt:decide (k8<(v.L.length:Int))with
    |false=>
     simp only[hlt,Bool.false_eq_true,if_false]at hx
     cases hx
     simp -implicitDefEqProofs only[go_sem,seval,hlt,Bool.true_eq_false,Bool.false_eq_true,false_implies,true_implies,true_and,and_true]
     first|(cases hb;rfl)|trace_state
    |true=>
     simp only[hlt,if_true]at hx
     obtain⟨c1,hx⟩:=PG hx
     obtain⟨y,hy,hx⟩:=Su hx
     obtain⟨c2,hx⟩:=PG hx
     cases hx
     simp -implicitDefEqProofs only[go_sem,seval,hlt,Bool.true_eq_false,Bool.false_eq_true,false_implies,true_implies,true_and,and_true]
     refine⟨c1,?_⟩
     have ih:=ihf hy
     unfold vA at ih
     refine FE.app ih ?_
     simp -implicitDefEqProofs only[go_sem,seval,Bool.true_eq_false,Bool.false_eq_true,false_implies,true_implies,true_and,and_true]
     refine⟨c2,?_⟩
     have e1:flat (l7++[y])=flat l7++[.int .i64 y.Kind,.int .i64 y.N,.str y.S.b,.sl false 4 y.L.length (flat y.L)]:=by
      have e:flat [y]=aK.cells y:=by unfold flat;simp
      rw[bT,e,dG]
     have fin:J _:=hb
     simp only[List.length_append,List.length_cons,List.length_nil,Nat.zero_add,e1]at fin
     exact fin
section
variable(d:aH)(ts:List UInt8)
def tI(j:Nat):Int:=Int.tmod ((ix ts (j:Int)).toNat:Int) (d.ae.length:Int)
def uv:Nat->List Int
 |0=>(List.range d.ae.length).map fun(i:Nat)=>(i:Int)+1
 |i+1=>((uv i).set (tI d ts (2*i)).toNat (ix (uv i) (tI d ts (2*i+1)))).set (tI d ts (2*i+1)).toNat (ix (uv i) (tI d ts (2*i)))
def mQ(n k:Nat):List Int:=((List.range k).map fun(i:Nat)=>(i:Int)+1)++List.replicate (n -k) 0
def BA(to:List Int):Nat->List ag
 |0=>List.replicate d.ae.length IA
 |k+1=>(BA to k).set (ix to (k:Int) -1).toNat (mO d.ae.length (fun j=>ix to (j -1)) (ix d.ae (k:Int)))
end
theorem Nq{d:aH}(ts:List UInt8)(j:Nat)(h:0<d.ae.length):0<=tI d ts j/\tI d ts j<(d.ae.length:Int):=⟨Int.tmod_nonneg _ (by omega),Int.tmod_lt_of_pos _ (by omega)⟩
theorem R8{d:aH}(ts:List UInt8)(h:0<d.ae.length):∀i,Pm d.ae.length (uv d ts i)
 |0=>Pm.start _
 |i+1=>by
  have ih:=R8 ts h i
  obtain⟨a1,a2⟩:=Nq (d:=d) ts (2*i) h
  obtain⟨b1,b2⟩:=Nq (d:=d) ts (2*i+1) h
  have hl:=ih.len
  have hi:(tI d ts (2*i)).toNat<(uv d ts i).length:=by omega
  have hj:(tI d ts (2*i+1)).toNat<(uv d ts i).length:=by omega
  rw[uv,kK hi,kK hj]
  exact ih.swap hi hj
theorem R7(n k:Nat)(h:k<=n):(mQ n k).length=n:=by unfold mQ;simp;omega
theorem Qe{n k:Nat}(h:k<n):(mQ n k).set k ((k:Int)+1)=mQ n (k+1):=by
 unfold mQ
 rw[List.set_append_right _ _ (by simp),List.range_succ,List.map_append,List.append_assoc]
 congr 1
 obtain⟨m,hm⟩:∃m,n -k=m+1:=⟨n -k -1,by omega⟩
 rw[hm,show n -(k+1)=m by omega,List.replicate_succ]
 simp
theorem Yg(d:aH)(ts:List UInt8):mQ d.ae.length d.ae.length=uv d ts 0:=by unfold mQ uv;simp
theorem A8(d:aH)(to:List Int):∀k,(BA d to k).length=d.ae.length
 |0=>List.length_replicate
 |k+1=>by rw[BA,List.length_set];exact A8 d to k
theorem Tc{d:aH}{to:List Int}(hp:Pm d.ae.length to):∀(m:Nat),m<=d.ae.length->∀(k:Nat)(h:k<d.ae.length),k<m->ix (BA d to m) (ix to (k:Int) -1)=mO d.ae.length (fun j=>ix to (j -1)) d.ae[k]
 |0,_,k,_,h=>by omega
 |m+1,hm,k,hk,h=>by
  have hl:=hp.len
  have r1:=hp.YL k (by omega)
  have r2:=hp.YL m (by omega)
  have e1:ix to (k:Int)=to[k]'(by omega):=cQ (by omega)
  have e2:ix to (m:Int)=to[m]'(by omega):=cQ (by omega)
  have ol:=A8 d to m
  have hlt:(ix to (k:Int) -1).toNat<((BA d to m).set (ix to (m:Int) -1).toNat (mO d.ae.length (fun j=>ix to (j -1)) (ix d.ae (m:Int)))).length:=by rw[List.length_set,ol,e1];omega
  rw[BA,kK hlt,List.getElem_set]
  by_cases e:(ix to (m:Int) -1).toNat=(ix to (k:Int) -1).toNat
  ·have:k=m:=hp.inj k m (by omega) (by omega) (by rw[<-e1,<-e2];rw[e1,e2]at e;rw[e1,e2];omega)
   subst this
   rw[if_pos rfl,cQ hk]
  ·rw[if_neg e]
   have hkm:k<m:=by
    rcases Nat.lt_or_ge k m with h|h
    ·exact h
    ·have hkm:k=m:=by omega
     subst hkm
     exact absurd rfl e
   have ih:=Tc hp m (by omega) k hk hkm
   have nu:(ix to (k:Int) -1).toNat<(BA d to m).length:=by rw[ol,e1];omega
   rw[kK nu]at ih
   exact ih
theorem adL{d:aH}{p:Int}{ts:List UInt8}{s:ab}{Q:List AV->ab->Prop}(hq:∀s',Sub s s'->Q [.bool true] s'):FN prog 7 [.agg (YQ d),.int .i64 p,.sl false 1 ts.length (flat ts)] s Q:=by
 have cJ:room=140737488355328:=rfl
 obtain⟨b,hb,hb2⟩:=Zb d.ae 40 (by decide)
 refine FO vE rfl rfl ?_
 rw[nx]
 simp -implicitDefEqProofs only[go_sem,seval]
 refine FE.app (M4 hb) ?_
 cases b with
 |false=>
  simp -implicitDefEqProofs only[go_sem,seval,Bool.true_eq_false,Bool.false_eq_true,false_implies,true_implies,true_and,and_true,Bool.not_true,Bool.not_false,Bool.true_or,Bool.false_or]
  refine p8 fun s' hs=>?_
  simp -implicitDefEqProofs only[go_sem,seval]
  exact hq s' hs
 |true=>
  cases c1:decide ((ts.length:Int)>100)with
  |true=>
   simp -implicitDefEqProofs only[go_sem,seval,c1,Bool.true_eq_false,Bool.false_eq_true,false_implies,true_implies,true_and,and_true,Bool.not_true,Bool.not_false,Bool.true_or,Bool.false_or]
   refine p8 fun s' hs=>?_
   simp -implicitDefEqProofs only[go_sem,seval]
   exact hq s' hs
  |false=>
   cases c2:decide (d.cM<1)with
   |true=>
    simp -implicitDefEqProofs only[go_sem,seval,c1,c2,Bool.true_eq_false,Bool.false_eq_true,false_implies,true_implies,true_and,and_true,Bool.not_true,Bool.not_false,Bool.true_or,Bool.false_or]
    refine p8 fun s' hs=>?_
    simp -implicitDefEqProofs only[go_sem,seval]
    exact hq s' hs
   |false=>
    cases c3:decide (d.cM>(d.ae.length:Int))with
    |true=>
     simp -implicitDefEqProofs only[go_sem,seval,c1,c2,c3,Bool.true_eq_false,Bool.false_eq_true,false_implies,true_implies,true_and,and_true,Bool.not_true,Bool.not_false,Bool.true_or,Bool.false_or]
     refine p8 fun s' hs=>?_
     simp -implicitDefEqProofs only[go_sem,seval]
     exact hq s' hs
    |false=>
     obtain⟨hl,ho⟩:=hb2 rfl
     have r1:¬d.cM<1:=of_decide_eq_false c2
     have r2:¬d.cM>(d.ae.length:Int):=of_decide_eq_false c3
     have hts:¬(ts.length:Int)>100:=of_decide_eq_false c1
     have hn0:0<d.ae.length:=by omega
     simp -implicitDefEqProofs only[go_sem,seval,c1,c2,c3,Bool.true_eq_false,Bool.false_eq_true,false_implies,true_implies,true_and,and_true,Bool.not_true,Bool.not_false,Bool.true_or,Bool.false_or]
     refine⟨by omega,Int.le_refl _,by omega,fun R hR=>?_⟩
     refine E1 d.ae.length (fun k U=>(∀i(h:i<d.ae.length),i<k->∀x∈lW d.ae[i].V,lu d.ae.length x)/\U=(⟨[(1,.int .i64 p),(2,.sl false 1 ts.length (flat ts)),(3,.loc [.sl false 6 d.ae.length (flat d.ae),.int .i64 d.cM]),(7,.int .i64 d.ae.length),(8,.arr R 0 d.ae.length d.ae.length),(9,.int .i64 k)],[],s.set R (.cells (flat (mQ d.ae.length k)))⟩:St)) (by omega) ?_ ?_ ?_
     ·refine⟨fun i _ h=>by omega,?_⟩
      first|rfl|trace_state
     ·rintro k hk J U ⟨hin,rfl⟩ hJ
      have hlt:decide ((k:Int)<(d.ae.length:Int))=true:=by simp;omega
      have w1:bj ((k:Int)+1)=((k+1:Nat):Int):=by rw[aI (by omega) (by omega)];rfl
      have hl1:=R7 d.ae.length k (by omega)
      obtain⟨r1,_⟩:=HS (mQ d.ae.length k) (n:=1) rfl (j:=(k:Int)) (by omega) (by omega)
      have st1:setAt (flat (mQ d.ae.length k)) ((k:Int).toNat*1) [.int .i64 ((k:Int)+1)]=_:=Tr (mQ d.ae.length k) (n:=1) rfl ((k:Int)+1) (j:=(k:Int)) (by omega) (by omega)
      rw[show(k:Int).toNat=k from rfl]at st1 r1
      rw[Qe hk]at st1
      have hix:ix d.ae (k:Int)=d.ae[k]:=cQ hk
      have hrefs:mI (ix d.ae (k:Int)).V=some (lW d.ae[k].V):=by rw[hix];exact P7 (ho _ (List.getElem_mem hk)).wide
      have fin:=hJ
      generalize hc2:flat (mQ d.ae.length (k+1))=cs2 at*
      generalize hc:flat (mQ d.ae.length k)=cs at*
      have kk:(0:Int)<=(k:Int)/\(k:Int)<(d.ae.length:Int):=by omega
      have w1':bj ((k:Int)+1)=(k:Int)+1:=by rw[aI (by omega) (by omega)]
      simp -implicitDefEqProofs only[go_sem,seval,hlt,w1',Bool.true_eq_false,Bool.false_eq_true,false_implies,true_implies,true_and,and_true,Bool.not_true,Bool.not_false,Bool.true_or,Bool.false_or]
      refine⟨kk,r1,?_⟩
      rw[st1]
      have pk:=lQ d.ae (k:Int)
      rw[Int.toNat_natCast]at pk
      refine⟨kk,?_⟩
      simp -implicitDefEqProofs only[go_sem,seval,pk,Bool.true_eq_false,Bool.false_eq_true,false_implies,true_implies,true_and,and_true,Bool.not_true,Bool.not_false,Bool.true_or,Bool.false_or]
      refine FE.app (JK hrefs) ?_
      simp -implicitDefEqProofs only[go_sem,seval,Bool.true_eq_false,Bool.false_eq_true,false_implies,true_implies,true_and,and_true,Bool.not_true,Bool.not_false,Bool.true_or,Bool.false_or]
      have al1:=na (ho _ (List.getElem_mem hk)).wide
      generalize hrl:lW d.ae[k].V=rl at*
      refine E1 rl.length (fun j U=>(∀i(h:i<rl.length),i<j->lu d.ae.length rl[i])/\U=(⟨[(1,.int .i64 p),(2,.sl false 1 ts.length (flat ts)),(3,.loc [.sl false 6 d.ae.length (flat d.ae),.int .i64 d.cM]),(7,.int .i64 d.ae.length),(8,.arr R 0 d.ae.length d.ae.length),(9,.int .i64 k),(10,.sl false 1 rl.length (flat rl)),(11,.int .i64 j)],[],s.set R (.cells cs2)⟩:St)) ?_ ?_ ?_ ?_
      ·omega
      ·exact⟨fun i _ h=>by omega,rfl⟩
      ·rintro j hj J2 U ⟨acY,rfl⟩ hJ2
       have nu:decide ((j:Int)<(rl.length:Int))=true:=by simp;omega
       have hxj:ix rl (j:Int)=rl[j]:=cQ hj
       have pj:=Te rl (j:Int)
       rw[Int.toNat_natCast]at pj
       have jj:(0:Int)<=(j:Int)/\(j:Int)<(rl.length:Int):=by omega
       have wj:bj ((j:Int)+1)=((j+1:Nat):Int):=by rw[aI (by omega) (by omega)];rfl
       cases c4:decide (ix rl (j:Int)<1)with
       |true=>
        simp -implicitDefEqProofs only[go_sem,seval,nu,pj,c4,Bool.true_eq_false,Bool.false_eq_true,false_implies,true_implies,true_and,and_true,Bool.not_true,Bool.not_false,Bool.true_or,Bool.false_or]
        refine⟨jj,p8 fun s' hs'=>?_⟩
        simp -implicitDefEqProofs only[go_sem,seval]
        exact hq s' fun b o hb=>hs' b o (((Sub.refl s).set hR) b o hb)
       |false=>
        cases c5:decide (ix rl (j:Int)>(d.ae.length:Int))with
        |true=>
         simp -implicitDefEqProofs only[go_sem,seval,nu,pj,c4,c5,Bool.true_eq_false,Bool.false_eq_true,false_implies,true_implies,true_and,and_true,Bool.not_true,Bool.not_false,Bool.true_or,Bool.false_or]
         refine⟨jj,jj,p8 fun s' hs'=>?_⟩
         simp -implicitDefEqProofs only[go_sem,seval]
         exact hq s' fun b o hb=>hs' b o (((Sub.refl s).set hR) b o hb)
        |false=>
         simp -implicitDefEqProofs only[go_sem,seval,nu,pj,c4,c5,wj,Bool.true_eq_false,Bool.false_eq_true,false_implies,true_implies,true_and,and_true,Bool.not_true,Bool.not_false,Bool.true_or,Bool.false_or]
         refine⟨jj,jj,hJ2 _ ⟨fun i h1 h2=>?_,rfl⟩⟩
         rcases Nat.lt_or_ge i j with h|h
         ·exact acY i h1 h
         ·obtain rfl:i=j:=by omega
          rw[<-hxj]
          have a1:=of_decide_eq_false c4
          have a2:=of_decide_eq_false c5
          exact⟨by omega,by omega⟩
      ·rintro J2 U ⟨acY,rfl⟩
       have nu:decide ((rl.length:Int)<(rl.length:Int))=false:=by simp
       simp -implicitDefEqProofs only[go_sem,seval,nu,w1,Bool.true_eq_false,Bool.false_eq_true,false_implies,true_implies,true_and,and_true,Bool.not_true,Bool.not_false,Bool.true_or,Bool.false_or]
       refine hJ _ ⟨fun i h1 h2=>?_,rfl⟩
       rcases Nat.lt_or_ge i k with h|h
       ·exact hin i h1 h
       ·obtain rfl:i=k:=by omega
        rw[hrl]
        intro x hx
        obtain⟨q,hq1,rfl⟩:=List.getElem_of_mem hx
        exact acY q hq1 hq1
     ·rintro J U ⟨hin,rfl⟩
      have hlt:decide ((d.ae.length:Int)<(d.ae.length:Int))=false:=by simp
      rw[Yg d ts]
      simp -implicitDefEqProofs only[go_sem,seval,hlt,Bool.true_eq_false,Bool.false_eq_true,false_implies,true_implies,true_and,and_true,Bool.not_true,Bool.not_false,Bool.true_or,Bool.false_or]
      refine E1 (ts.length/2) (fun i U=>U=(⟨[(1,.int .i64 p),(2,.sl false 1 ts.length (flat ts)),(3,.loc [.sl false 6 d.ae.length (flat d.ae),.int .i64 d.cM]),(7,.int .i64 d.ae.length),(8,.arr R 0 d.ae.length d.ae.length),(12,.int .i64 ((2*i:Nat):Int))],[],s.set R (.cells (flat (uv d ts i)))⟩:St)) (by omega) rfl ?_ ?_
      ·rintro i hi J2 U rfl hJ2
       have w1:bj (((2*i:Nat):Int)+1)=((2*i+1:Nat):Int):=by rw[aI (by omega) (by omega)];rfl
       have w2:bj (((2*i:Nat):Int)+2)=((2*(i+1):Nat):Int):=by rw[aI (by omega) (by omega)];omega
       have nu:decide (((2*i+1:Nat):Int)<(ts.length:Int))=true:=by simp;omega
       have p1:=XF ts ((2*i:Nat):Int)
       have p2:=XF ts ((2*i+1:Nat):Int)
       rw[Int.toNat_natCast]at p1 p2
       have v1:bj ((ix ts ((2*i:Nat):Int)).toNat:Int)=((ix ts ((2*i:Nat):Int)).toNat:Int):=by
        have:=(ix ts ((2*i:Nat):Int)).toNat_lt
        exact aI (by omega) (by omega)
       have v2:bj ((ix ts ((2*i+1:Nat):Int)).toNat:Int)=((ix ts ((2*i+1:Nat):Int)).toNat:Int):=by
        have:=(ix ts ((2*i+1:Nat):Int)).toNat_lt
        exact aI (by omega) (by omega)
       have u1:Int.tmod ((ix ts ((2*i:Nat):Int)).toNat:Int) (d.ae.length:Int)=tI d ts (2*i):=rfl
       have u2:Int.tmod ((ix ts ((2*i+1:Nat):Int)).toNat:Int) (d.ae.length:Int)=tI d ts (2*i+1):=rfl
       have hn1:((d.ae.length:Int)≠0)=True:=eq_true (by omega)
       have hPm:=R8 (d:=d) ts hn0 i
       have hlr:=hPm.len
       obtain⟨a1,a2⟩:=Nq (d:=d) ts (2*i) hn0
       obtain⟨b1,b2⟩:=Nq (d:=d) ts (2*i+1) hn0
       obtain⟨r1,r2⟩:=HS (uv d ts i) (n:=1) rfl (j:=tI d ts (2*i)) a1 (by omega)
       obtain⟨r3,r4⟩:=HS (uv d ts i) (n:=1) rfl (j:=tI d ts (2*i+1)) b1 (by omega)
       have r2:views (AB.sub (flat (uv d ts i)) ((tI d ts (2*i)).toNat*1) 1)=[.int .i64 (ix (uv d ts i) (tI d ts (2*i)))]:=r2
       have r4:views (AB.sub (flat (uv d ts i)) ((tI d ts (2*i+1)).toNat*1) 1)=[.int .i64 (ix (uv d ts i) (tI d ts (2*i+1)))]:=r4
       have st1:setAt (flat (uv d ts i)) ((tI d ts (2*i)).toNat*1) [.int .i64 (ix (uv d ts i) (tI d ts (2*i+1)))]=_:=Tr (uv d ts i) (n:=1) rfl (ix (uv d ts i) (tI d ts (2*i+1))) (j:=tI d ts (2*i)) a1 (by omega)
       have hl3:((uv d ts i).set (tI d ts (2*i)).toNat (ix (uv d ts i) (tI d ts (2*i+1)))).length=(uv d ts i).length:=List.length_set ..
       obtain⟨r5,_⟩:=HS ((uv d ts i).set (tI d ts (2*i)).toNat (ix (uv d ts i) (tI d ts (2*i+1)))) (n:=1) rfl (j:=tI d ts (2*i+1)) b1 (by omega)
       have st2:setAt (flat ((uv d ts i).set (tI d ts (2*i)).toNat (ix (uv d ts i) (tI d ts (2*i+1))))) ((tI d ts (2*i+1)).toNat*1) [.int .i64 (ix (uv d ts i) (tI d ts (2*i)))]=flat (uv d ts (i+1)):=Tr _ (n:=1) rfl (ix (uv d ts i) (tI d ts (2*i))) (j:=tI d ts (2*i+1)) b1 (by omega)
       have fin:=hJ2 _ rfl
       generalize aml:flat (uv d ts (i+1))=cs3 at*
       generalize ag3:flat ((uv d ts i).set (tI d ts (2*i)).toNat (ix (uv d ts i) (tI d ts (2*i+1))))=cs2 at*
       generalize ag2:flat (uv d ts i)=cs1 at*
       have d1:=decide_eq_true r1
       have d3:=decide_eq_true r3
       generalize hx1:ix (uv d ts i) (tI d ts (2*i))=x1 at*
       generalize hx2:ix (uv d ts i) (tI d ts (2*i+1))=x2 at*
       simp -implicitDefEqProofs only[go_sem,seval,bP,nu,w1,w2,p1,p2,v1,v2,u1,u2,hn1,r2,r4,d1,d3,st1,st2,Bool.true_eq_false,Bool.false_eq_true,false_implies,true_implies,true_and,and_true,Bool.not_true,Bool.not_false,Bool.true_or,Bool.false_or]
       exact⟨⟨by omega,by omega⟩,⟨by omega,by omega⟩,⟨b1,b2⟩,⟨a1,a2⟩,⟨a1,a2⟩,r1,⟨b1,b2⟩,r5,fin⟩
      ·rintro J2 U rfl
       have w1:bj (((2*(ts.length/2):Nat):Int)+1)=((2*(ts.length/2)+1:Nat):Int):=by rw[aI (by omega) (by omega)];rfl
       have nu:decide (((2*(ts.length/2)+1:Nat):Int)<(ts.length:Int))=false:=by simp;omega
       have hPm:=R8 (d:=d) ts hn0 (ts.length/2)
       generalize uv d ts (ts.length/2)=to at*
       have hlr:=hPm.len
       have w3:bj (d.cM -1)=d.cM -1:=aI (by omega) (by omega)
       obtain⟨r1,r2⟩:=HS to (n:=1) rfl (j:=d.cM -1) (by omega) (by omega)
       have r2:views (AB.sub (flat to) ((d.cM -1).toNat*1) 1)=[.int .i64 (ix to (d.cM -1))]:=r2
       generalize hcs:flat to=cs at*
       have d1:=decide_eq_true r1
       simp -implicitDefEqProofs only[go_sem,seval,bP,nu,w1,w3,r2,d1,Bool.true_eq_false,Bool.false_eq_true,false_implies,true_implies,true_and,and_true,Bool.not_true,Bool.not_false,Bool.true_or,Bool.false_or]
       refine⟨⟨by omega,by omega⟩,by omega,Int.le_refl _,by omega,fun O hO=>?_⟩
       have hOR:O≠R:=fun e=>by subst e;rw[bd]at hO;cases hO
       have ag9:Sub s ((s.set R (.cells cs)).set O (.cells (flat (BA d to d.ae.length)))):=((Sub.refl s).set hR).set hO
       refine E1 d.ae.length (fun k U=>U=(⟨[(1,.int .i64 p),(3,.loc [.sl false 6 d.ae.length (flat d.ae),.int .i64 d.cM]),(7,.int .i64 d.ae.length),(8,.arr R 0 d.ae.length d.ae.length),(15,.loc [.arr O 0 d.ae.length d.ae.length,.int .i64 (ix to (d.cM -1))]),(16,.int .i64 k)],[],(s.set R (.cells cs)).set O (.cells (flat (BA d to k)))⟩:St)) (by omega) ?_ ?_ ?_
       ·have e0:(List.replicate d.ae.length [AV.int IntKind.i64 0,AV.int IntKind.i64 0,AV.str [],AV.sl false 4 0 [],AV.bool false,AV.str []]).flatten=flat (BA d to 0):=by
         unfold BA flat
         rw[List.map_replicate]
         rfl
        rw[e0]
        rfl
       ·rintro k hk J3 U rfl hJ3
        have Zp:decide ((k:Int)<(d.ae.length:Int))=true:=by simp;omega
        have w5:bj ((k:Int)+1)=((k+1:Nat):Int):=by rw[aI (by omega) (by omega)];rfl
        have pk:=lQ d.ae (k:Int)
        rw[Int.toNat_natCast]at pk
        have hxk:ix d.ae (k:Int)=d.ae[k]:=cQ hk
        have hf0:jQ (ix d.ae (k:Int)).V:=by rw[hxk];exact ho _ (List.getElem_mem hk)
        have hRX:∀X,((s.set R (.cells cs)).set O X) R=some (.cells cs):=fun X=>by rw[ai hOR.symm,bd]
        have hOX:∀X,((s.set R (.cells cs)).set O X) O=some X:=fun X=>by rw[bd]
        have hmp:=ZK (s:=(s.set R (.cells cs)).set O (.cells (flat (BA d to k)))) (b:=R) (cap:=d.ae.length) (to:=to) (by rw[hRX,hcs]) (by omega) 1000 (map_eq to (by omega) 302 _ 1000 hf0.wide.1 (by decide) (by decide))
        rw[hlr]at hmp
        have hmv:dH (gS d.ae.length fun k=>ix to (k -1)) 302 (ix d.ae (k:Int)).V=(mO d.ae.length (fun k=>ix to (k -1)) (ix d.ae (k:Int))).V:=rfl
        rw[hmv]at hmp
        have hst:(mO d.ae.length (fun k=>ix to (k -1)) (ix d.ae (k:Int))).Stream=(ix d.ae (k:Int)).Stream:=rfl
        have hda:(mO d.ae.length (fun k=>ix to (k -1)) (ix d.ae (k:Int))).Data=(ix d.ae (k:Int)).Data:=rfl
        obtain⟨r3,r4⟩:=HS to (n:=1) rfl (j:=(k:Int)) (by omega) (by omega)
        have r4:views (AB.sub (flat to) ((k:Int).toNat*1) 1)=[.int .i64 (ix to (k:Int))]:=r4
        rw[show(k:Int).toNat=k from rfl]at r3 r4
        have ek:ix to (k:Int)=to[k]'(by omega):=cQ (by omega)
        have hrg:=hPm.YL k (by omega)
        rw[<-ek]at hrg
        have w6:bj (ix to (k:Int) -1)=ix to (k:Int) -1:=aI (by omega) (by omega)
        have hol:=A8 d to k
        obtain⟨r5,_⟩:=HS (BA d to k) (n:=6) rfl (j:=ix to (k:Int) -1) (by omega) (by omega)
        have st1:setAt (flat (BA d to k)) ((ix to (k:Int) -1).toNat*6) (aK.cells (mO d.ae.length (fun k=>ix to (k -1)) (ix d.ae (k:Int))))=flat (BA d to (k+1)):=Tr (BA d to k) (n:=6) rfl _ (j:=ix to (k:Int) -1) (by omega) (by omega)
        rw[ju,hst,hda]at st1
        have fin:=hJ3 _ rfl
        rw[hcs]at r3 r4
        generalize amn:flat (BA d to (k+1))=cs5 at*
        generalize amm:flat (BA d to k)=cs4 at*
        generalize hmo:(mO d.ae.length (fun k=>ix to (k -1)) (ix d.ae (k:Int))).V=mv at*
        unfold vA at hmp
        have d3:=decide_eq_true r3
        simp -implicitDefEqProofs only[go_sem,seval,bP,Zp,w5,pk,Bool.true_eq_false,Bool.false_eq_true,false_implies,true_implies,true_and,and_true,Bool.not_true,Bool.not_false,Bool.true_or,Bool.false_or]
        refine⟨⟨by omega,by omega⟩,FE.app hmp ?_⟩
        simp -implicitDefEqProofs only[go_sem,seval,bP,Zp,w5,w6,pk,hRX,hOX,r4,d3,st1,Bool.true_eq_false,Bool.false_eq_true,false_implies,true_implies,true_and,and_true,Bool.not_true,Bool.not_false,Bool.true_or,Bool.false_or]
        exact⟨⟨by omega,by omega⟩,⟨by omega,by omega⟩,r5,fin⟩
       ·rintro J3 U rfl
        have Zp:decide ((d.ae.length:Int)<(d.ae.length:Int))=false:=by simp
        simp -implicitDefEqProofs only[go_sem,seval,Zp,Bool.true_eq_false,Bool.false_eq_true,false_implies,true_implies,true_and,and_true,Bool.not_true,Bool.not_false,Bool.true_or,Bool.false_or]
        have hd:k7 d:=⟨by omega,ho⟩
        have abq:pc d.ae.length (fun k=>ix to (k -1)) d ⟨BA d to d.ae.length,ix to (d.cM -1)⟩:=
         RF (by omega) ho ⟨by omega,by omega⟩ (fun o h=>by
          obtain⟨i,hi,rfl⟩:=List.getElem_of_mem h
          exact hin i hi hi) hPm rfl (A8 d to _) fun k h=>Tc hPm _ (Nat.le_refl _) k h h
        have hvS:=aaJ abq p
        have hel:(BA d to d.ae.length).length=d.ae.length:=A8 d to _
        refine zS (as1:=[.agg (YQ d)]) (by rfl) (yR (d:=d) fun F db s1 hs1 hF hdb=>?_)
        simp -implicitDefEqProofs only[go_sem,seval]
        refine FE.app (th (f_0:=FK F d) (LP (by omega) hF hdb) (Qm F d hd p)) ?_
        simp -implicitDefEqProofs only[go_sem,seval,Bool.true_eq_false,Bool.false_eq_true,false_implies,true_implies,true_and,and_true,Bool.not_true,Bool.not_false,Bool.true_or,Bool.false_or]
        have ahk:s1 O=some (.cells (flat (BA d to d.ae.length))):=hs1 _ _ (by rw[bd])
        have ag7:(flat (BA d to d.ae.length)).length=d.ae.length*6:=by rw[al,hel];rfl
        refine FN.iU O (d.ae.length*6) ahk (tv:=[.agg (YQ ⟨BA d to d.ae.length,ix to (d.cM -1)⟩)]) (yR (d:=⟨BA d to d.ae.length,ix to (d.cM -1)⟩) fun F2 db2 s2 hs2 hF2 akM=>?_) ?_
        ·simp -implicitDefEqProofs only[go_sem,seval]
         refine FE.app (th (f_0:=FK F2 ⟨BA d to d.ae.length,ix to (d.cM -1)⟩) (LP (by rw[hel];omega) hF2 akM) (Qm F2 _ abq.fe p)) ?_
         rw[hvS]
         simp -implicitDefEqProofs only[go_sem,seval,Bool.true_eq_false,Bool.false_eq_true,false_implies,true_implies,true_and,and_true,Bool.not_true,Bool.not_false,Bool.true_or,Bool.false_or]
         have h4:mK (tZ d p).1 (tZ d p).1=some true:=by rw[(ah5 _ _ (aaI hd p)).2,Ou]
         have ee:((tZ d p).2==(tZ d p).2)=true:=beq_self_eq_true _
         refine⟨[.bool true],rfl,yA h4,?_⟩
         simp -implicitDefEqProofs only[go_sem,seval,ee,Bool.true_eq_false,Bool.false_eq_true,false_implies,true_implies,true_and,and_true,Bool.not_true,Bool.not_false,Bool.true_or,Bool.false_or]
         refine⟨[.bool true],rfl,⟨[],rfl,FN.forget (p8 fun s' hs=>⟨_,hs,rfl,rfl⟩)⟩,?_⟩
         simp -implicitDefEqProofs only[go_sem,seval,ee,Bool.true_eq_false,Bool.false_eq_true,false_implies,true_implies,true_and,and_true,Bool.not_true,Bool.not_false,Bool.true_or,Bool.false_or]
         refine hq s2 fun b o hb=>hs2 b o ?_
         have hbO:b≠O:=fun e=>by
          subst e
          rw[ai hOR]at hO
          rw[hO]at hb;cases hb
         rw[QS hbO]
         exact hs1 b o (ag9 b o hb)
        ·intro G w vs hG hvs
         obtain⟨hsz,hvs⟩:=hvs
         refine⟨hsz,fun j a v ha hv=>?_⟩
         match j,ha with
         |0,ha=>
          cases ha
          obtain⟨us,rfl,h1,h2,_⟩:=VR.sI (hvs 0 _ v rfl hv)
          refine VR.agg _ us ?_ h1 fun j c u hc hu=>?_
          ·intro c hc
           rcases List.mem_cons.1 hc with rfl|hc
           ·rfl
           ·rcases List.mem_cons.1 hc with rfl|hc
            ·rfl
            ·cases hc
          ·match j,hc with
           |0,hc=>
            cases hc
            have:=zY (sz:=6) hG (n:=d.ae.length) (cap:=d.ae.length) (cs:=flat (BA d to d.ae.length)) ag7 (Nat.le_refl _) (aC _) (fun _=>⟨[],by rw[List.append_nil];exact ahk⟩) (h2 0 _ u rfl hu) (by decide)
            show VR w _ (.sl false 6 (BA d to d.ae.length).length (flat (BA d to d.ae.length))) u
            rw[hel]
            exact this
           |1,hc=>
            cases hc
            have h3:=h2 1 _ u rfl hu
            cases h3
            exact VR.int _ _
           |j+2,hc=>cases hc
         |j+1,ha=>cases ha
theorem vL{d:aH}{p:Int}{ts:List UInt8}{s:ab}(h:True):FE prog 7 [.agg (YQ d),.int .i64 p,.sl false 1 ts.length (flat ts)] s [.bool true] s:=by
 refine FN.forget ?_
 exact adL fun s' hs=>⟨_,hs,rfl,rfl⟩
theorem sP(d:aH)(p:Int)(ts:List UInt8):True:=trivial
end Go.AB
end
section
namespace Go.AB
open Go Go.RowKit Go.ChangeShapes Go.WideShapes
def uc(N:Nat)(w:World)(b:Nat):Nat:=if b<w.heap.size then N else 0
theorem Rp{P:Program}{w:World}{f:FuncId}{args:List AV}{vs:Array Value}(N:Nat)(hf:FN P f args xd fun rs _=>rs=[.bool true])(ha:kH w (uc N w) args vs):
 Calls P f vs w fun e w'=>e=.returned (.bool true)/\Below w.heap.size w w':=by
 refine(hf ⟨uc N w,fun _=>.none⟩ w vs ⟨fun _ _=>rfl,fun b hb=>?_⟩ (fun b=>.inl rfl) (fun b o h=>by cases h) ha).mono fun e w'⟨v,rs,s',G',he,hq,_,_,hr,hp⟩=>?_
 ·show uc N w b=0
  unfold uc
  rw[if_neg (by omega)]
 ·subst hq
  refine⟨?_,⟨hp.os,hp.tape,hp.output,hp.size,fun b hb=>hp.frame b hb (.inr rfl)⟩⟩
  rw[he]
  have:=VR.fZ hr.1
  rw[this]
def Fj(w:World)(R:Nat->Nat)(as1:List AV)(cs:List Value):Prop:=cs.length=as1.length/\∀(j:Nat)(a:AV)(v:Value),as1[j]? =some a->cs[j]? =some v->VR w R a v
theorem Fj.one{w:World}{R:Nat->Nat}{a:AV}{v:Value}(h:VR w R a v):Fj w R [a] [v]:=by
 refine⟨rfl,fun j a' v' h1 h2=>?_⟩
 cases j with
 |zero=>cases h1;cases h2;exact h
 |succ j=>simp at h1
theorem Fj.append{w:World}{R:Nat->Nat}{as1 bs:List AV}{cs ds:List Value}(h:Fj w R as1 cs)(k:Fj w R bs ds):Fj w R (as1++bs) (cs++ds):=by
 refine⟨by rw[List.length_append,List.length_append,h.1,k.1],fun j a v h1 h2=>?_⟩
 rcases Nat.lt_or_ge j as1.length with hj|hj
 ·rw[List.getElem?_append_left hj]at h1
  rw[List.getElem?_append_left (by rw[h.1];exact hj)]at h2
  exact h.2 j a v h1 h2
 ·rw[List.getElem?_append_right hj]at h1
  rw[List.getElem?_append_right (by rw[h.1];exact hj),h.1]at h2
  exact k.2 _ a v h1 h2
def kb(P:Program)(t:TypeId){α:Type}(n:Nat)(C:α->List AV)(wf:α->Prop):Prop:=
 ∀(H:Type)(enc:TypeId×Value->H)(w:World)(fuel:Nat)(cs:List Value)(x:DataW H×List MemPlace),DataW.trod enc P w 0 (fun _=>true) true fuel t cs=some x->
  cs.length=n/\∃a:α,wf a/\Fl (C a)/\∃N0,∀N,N0<=N->Fj w (uc N w) (C a) cs
def ux(P:Program)(t:TypeId)(α:Type)[aK α](wf:α->Prop):Prop:=kb P t (aK.w α) (aK.cells:α->List AV) wf
section
variable{P:Program}{t:TypeId}
theorem yU{a:AV}(h:ry a=true):Fl [a]:=by
 intro c hc
 rw[List.mem_singleton]at hc;rw[hc];exact h
theorem RE(ht:P.underlying t=some .bool):ux P t Bool fun _=>True:=by
 intro H enc w fuel cs x h
 obtain⟨b,rfl,_⟩:=DataW.trod_bool ht h
 exact⟨rfl,b,trivial,yU rfl,0,fun N _=>Fj.one (.bool b)⟩
theorem xe(ht:P.underlying t=some (.int .i64)):ux P t Int fun n=>-9223372036854775808<=n/\n<=9223372036854775807:=by
 intro H enc w fuel cs x h
 obtain⟨n,rfl,_,hw⟩:=DataW.trod_int ht h
 refine⟨rfl,n,?_,yU rfl,0,fun N _=>Fj.one (.int _ n)⟩
 simpa[Lit.wf,IntKind.min,IntKind.max,IntKind.signed,IntKind.bits]using hw
theorem XA(ht:P.underlying t=some (.int .u8)):ux P t UInt8 fun _=>True:=by
 intro H enc w fuel cs x h
 obtain⟨n,rfl,_,hw⟩:=DataW.trod_int ht h
 have hb:0<=n/\n<=255:=by simpa[Lit.wf,IntKind.min,IntKind.max,IntKind.signed,IntKind.bits]using hw
 refine⟨rfl,UInt8.ofNat n.toNat,trivial,yU rfl,0,fun N _=>?_⟩
 have e:((UInt8.ofNat n.toNat).toNat:Int)=n:=by rw[UInt8.toNat_ofNat'];omega
 show Fj _ _ [.int .u8 ((UInt8.ofNat n.toNat).toNat:Int)] _
 rw[e]
 exact Fj.one (.int _ n)
theorem K8(ht:P.underlying t=some .string):ux P t aw fun s=>s.b.length<=maxLen:=by
 intro H enc w fuel cs x h
 obtain⟨s,rfl,_,hs⟩:=DataW.trod_string ht h
 refine⟨rfl,⟨s.data.toList⟩,by simpa using hs,yU rfl,0,fun N _=>?_⟩
 have:=VR.str (w:=w) (R:=uc N w) s.data.toList
 exact Fj.one this
theorem CZ{α:Type}{Q:Nat->α->Prop}:∀n:Nat,(∀i,i<n->∃a,Q i a)->∃l:List α,l.length=n/\∀(i:Nat)(a:α),l[i]? =some a->Q i a
 |0,_=>⟨[],rfl,fun i a h=>by simp at h⟩
 |n+1,h=>by
  obtain⟨l,h1,h2⟩:=CZ n fun i hi=>h i (by omega)
  obtain⟨a,ha⟩:=h n (by omega)
  refine⟨l++[a],by simp[h1],fun i x hx=>?_⟩
  rcases Nat.lt_or_ge i n with hi|hi
  ·rw[List.getElem?_append_left (by omega)]at hx;exact h2 i x hx
  ·rw[List.getElem?_append_right (by omega)]at hx
   have:i=n:=by
    have:=(List.getElem?_eq_some_iff.1 hx).1
    simp at this;omega
   subst this
   rw[h1,Nat.sub_self]at hx
   injection hx with hx;rw[<-hx];exact ha
theorem common{Q:Nat->Nat->Prop}:∀n:Nat,(∀i,i<n->∃N0,∀N,N0<=N->Q i N)->∃N0,∀N,N0<=N->∀i,i<n->Q i N
 |0,_=>⟨0,fun _ _ i h=>absurd h (Nat.not_lt_zero i)⟩
 |n+1,h=>by
  obtain⟨a,ha⟩:=common n fun i hi=>h i (by omega)
  obtain⟨b,hb⟩:=h n (by omega)
  refine⟨max a b,fun N hN i hi=>?_⟩
  rcases Nat.lt_or_ge i n with h1|h1
  ·exact ha N (by omega) i h1
  ·have:i=n:=by omega
   rw[this];exact hb N (by omega)
theorem VW{α:Type}[aK α](l:List α){i r:Nat}{a:α}(hi:l[i]? =some a)(hr:r<aK.w α):(flat l)[i*aK.w α+r]? =(aK.cells a)[r]? :=by
 have h1:=lC l (aK.w α) i 1 rfl
 obtain⟨hlt,he⟩:=List.getElem?_eq_some_iff.1 hi
 have h2:(l.drop i).take 1=[a]:=by rw[List.drop_eq_getElem_cons hlt,he];rfl
 rw[h2,my,rA,List.append_nil,Nat.one_mul]at h1
 rw[<-h1]
 unfold AB.sub
 rw[List.getElem?_take,if_pos hr,List.getElem?_drop]
end
end Go.AB
end
