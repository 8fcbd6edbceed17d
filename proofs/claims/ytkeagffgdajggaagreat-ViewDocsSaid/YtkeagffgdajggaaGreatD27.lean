/- A part of the proof. -/
import Derived.Test.YtkeagffgdajggaaGreatD26
import Derived.Test.YtkeagffgdajggaaGreatD24
import Derived.Test.YtkeagffgdajggaaGreatD10
import Derived.ProofKit
import Derived.OpenShut
import Derived.ChangeCalls
import Derived.Test.YtkeagffgdajggaaGreatRows
import Derived.JoinedCond
set_option linter.unusedSimpArgs false
set_option linter.unusedVariables false
section
set_option maxRecDepth 20000
namespace Go.AB
open Go
noncomputable def xq{α:Type}(a b:α):Bool:=@decide (a=b) (Classical.propDecidable _)
theorem lT{α:Type}{a b:α}:xq a b=true↔a=b:=by unfold xq;simp
theorem Pp{α:Type}(a:α):xq a a=true:=lT.2 rfl
theorem acH{α:Type}{a b:α}{x:Bool}(h:x=true↔a=b):x=xq a b:=by rw[Bool.eq_iff_iff,lT];exact h
theorem ab8(a b:aa)(h:W 302 a):iR a b=some (xq a b)/\iP a b=some (xq a b):=by
 obtain⟨x,e1,e2,e3⟩:=aav a b h
 rw[<-acH e3];exact⟨e1,e2⟩
theorem adB(a b:af):a=b↔a.V=b.V/\a.Stream=b.Stream/\a.Data.b=b.Data.b:=by
 obtain⟨v,s,⟨d⟩⟩:=a
 obtain⟨v',s',⟨d'⟩⟩:=b
 constructor
 ·intro h;cases h;exact⟨rfl,rfl,rfl⟩
 ·rintro⟨rfl,rfl,h⟩;cases h;rfl
theorem abE(a b:af)(h:W 302 a.V):kE a b=some (xq a b)/\kY a b=some (xq a b):=by
 obtain⟨e1,e2⟩:=ab8 a.V b.V h
 have key:(xq a.V b.V&&(a.Stream==b.Stream)&&(a.Data.b==b.Data.b))=xq a b:=by rw[Bool.eq_iff_iff,lT,adB,Bool.and_eq_true,Bool.and_eq_true,lT,beq_iff_eq,beq_iff_eq,and_assoc]
 rw[<-key]
 unfold kE kY
 rw[e1,e2]
 generalize xq a.V b.V=x
 cases x<;>cases(a.Stream==b.Stream)<;>cases(a.Data.b==b.Data.b)<;>exact⟨rfl,rfl⟩
theorem aet{α:Type}{a b:List α}(hl:a.length=b.length):a=b↔(a.zip b).findIdx? (fun p=>!xq p.1 p.2)=none:=by
 rw[List.findIdx?_eq_none_iff]
 constructor
 ·rintro rfl p hp
  obtain⟨i,hi,rfl⟩:=List.getElem_of_mem hp
  rw[List.getElem_zip,Pp];rfl
 ·intro h
  refine List.ext_getElem hl fun i h1 h2=>?_
  have:=h (a[i],b[i]) (List.getElem_mem (l:=a.zip b) (n:=i) (by rw[List.length_zip];omega)|>fun m=>by rwa[List.getElem_zip]at m)
  exact lT.1 (by simpa using this)
theorem ahq(a b:List af)(h:∀o∈a,W 302 o.V)(hl:a.length<=1000000):ax a b=some (xq a b)/\kZ a b=some (xq a b):=by
 unfold ax kZ
 by_cases hn:a.length=b.length
 ·have hz:(a.zip b).length=a.length:=by rw[List.length_zip];omega
  have hc:¬(((a.length:Int)!=(b.length:Int))=true):=by rw[hn];simp
  rw[if_neg hc,if_neg hc]
  have run:∀{body:Int->Option (Int⊕(Unit⊕Bool))},(∀(k:Nat)(hk:k<a.length),body (k:Int)=some (if(!xq a[k] (b[k]'(by omega)))=true then .inr (.inr false)else .inl (bd ((k:Int)+1))))->body (a.length:Int)=some (.inr (.inl ()))->
   iter body 0=some (if xq a b=true then .inl ()else .inr false):=fun{body} hb he=>by
   have r:=K5 (O:=Unit⊕Bool) (a.zip b) (fun p=>!xq p.1 p.2) (by omega) (body:=body) (fun _=>.inr false) (.inl ()) (fun k hk=>by
    rw[hb k (by omega)]
    simp only[List.getElem_zip]) (by rw[hz];exact he)
   rw[r]
   have e:=aet hn
   cases hf:(a.zip b).findIdx? (fun p=>!xq p.1 p.2)with
   |none=>rw[if_pos (lT.2 (e.2 hf))]
   |some i=>rw[if_neg fun hh=>by rw[e.1 (lT.1 hh)]at hf;cases hf]
  have fin:∀{it:Option (Unit⊕Bool)},it=some (if xq a b=true then .inl ()else .inr false)->yS (jY it (fun(_:Unit)=>some (.inl ())) (fun(t3:Bool)=>some (.inr t3))) (fun(_:Unit)=>some true) (fun(t1:Bool)=>some t1)=some (xq a b):=fun{it} hh=>by
   rw[hh]
   cases xq a b<;>rfl
  have jz:∀{k:Nat}(hk:k<a.length){o:Option Bool},o=some (xq a[k] (b[k]'(by omega)))->(aJ o fun r4=>if(!r4)=true then some (.inr (.inr false))else some (.inl (bd ((k:Int)+1))))=(some (if(!xq a[k] (b[k]'(by omega)))=true then .inr (.inr false)else .inl (bd ((k:Int)+1))):Option (Int⊕(Unit⊕Bool))):=fun{k} hk{o} ho=>by
   rw[ho,aK]
   cases xq a[k] (b[k]'(by omega))<;>rfl
  refine⟨fin (run (fun k hk=>?_) (az (by simp) rfl)),fin (run (fun k hk=>?_) (az (by simp) rfl))⟩
  ·refine aL (by simp;omega) (au (by omega) (au (by omega) (jz hk ?_)))
   rw[fu hk,fu (l:=b) (by omega)]
   exact(abE _ _ (h _ (List.getElem_mem hk))).1
  ·refine aL (by simp;omega) (au (by omega) (au (by omega) (jz hk ?_)))
   rw[fu hk,fu (l:=b) (by omega)]
   exact(abE _ _ (h _ (List.getElem_mem hk))).2
 ·have e:xq a b=false:=by
   rw[<-Bool.not_eq_true,lT]
   intro h;exact hn (by rw[h])
  rw[e]
  have hc:((a.length:Int)!=(b.length:Int))=true:=by simp;omega
  exact⟨aL hc rfl,aL hc rfl⟩
def WP(a:bL):Prop:=(∀o∈a.ak,W 302 o.V)/\W 302 a.ag/\a.ak.length<=1000000
theorem ahF(a b:bL)(h:WP a):pE a b=some (xq a b)/\k7 a b=some (xq a b):=by
 obtain⟨e1,e2⟩:=ahq a.ak b.ak h.1 h.2.2
 obtain⟨e3,e4⟩:=ab8 a.ag b.ag h.2.1
 have key:(xq a.ak b.ak&&xq a.ag b.ag)=xq a b:=by
  rw[Bool.eq_iff_iff,Bool.and_eq_true,lT,lT,lT]
  obtain⟨l,g⟩:=a
  obtain⟨l',g'⟩:=b
  constructor
  ·rintro⟨h1,h2⟩;cases h1;cases h2;rfl
  ·intro h;cases h;exact⟨rfl,rfl⟩
 rw[<-key]
 refine⟨aw e1 ?_,aw e2 ?_⟩
 ·rw[e3];generalize xq a.ak b.ak=x;generalize xq a.ag b.ag=y;cases x<;>rfl
 ·rw[e4];generalize xq a.ak b.ak=x;generalize xq a.ag b.ag=y;cases x<;>rfl
def Fv:ar:=⟨[80,97,114,101,110,116]⟩
def vb(v:aa):aa:=(c5 v Fv).getD zeroV
theorem vd{v:aa}(h:ks v):c5 v Fv=some (vb v)/\iO v Fv=some (vb v)/\ks (vb v):=by
 obtain⟨v',d1,d2,d3⟩:=drop_eq h Fv
 have e:vb v=v':=by unfold vb;rw[d1];rfl
 rw[e];exact⟨d1,d2,d3⟩
def aih(row:List Int)(k:Nat)(o:af):af:=⟨QZ row (if k=0 then vb o.V else o.V),o.Stream,o.Data⟩
def De(row:List Int)(l:List af)(n:Nat):List af:=(List.range n).map fun k=>aih row k (ix l (k:Int))
theorem LO(row:List Int)(l:List af)(n:Nat):De row l (n+1)=De row l n++[aih row n (ix l (n:Int))]:=by unfold De;rw[List.range_succ,List.map_append];rfl
theorem Iy(row:List Int)(l:List af)(n:Nat):(De row l n).length=n:=by unfold De;simp
def HO(row:List Int)(l:List af)(g:aa):bL:=⟨De row l l.length,QZ row g⟩
theorem T3(row:List Int){v:aa}(h:W 302 v):W 302 (QZ row v):=HF _ (fun n=>aan _) 302 v h
theorem Z4(row:List Int){l:List af}{g:aa}(ho:∀o∈l,ks o.V)(hl:l.length<=100000)(hg:ks g):WP (HO row l g):=by
 refine⟨fun o h=>?_,T3 row hg.1,by show(De row l l.length).length<=_;rw[Iy];omega⟩
 obtain⟨k,hk,rfl⟩:=List.mem_map.1 h
 have hk:=List.mem_range.1 hk
 have hx:ix l (k:Int)=l[k]:=fu hk
 refine T3 row ?_
 rw[hx]
 split
 ·exact(vd (ho _ (List.getElem_mem hk))).2.2.1
 ·exact(ho _ (List.getElem_mem hk)).1
theorem QI(row:List Int){l:List af}{g:aa}(hr:row.length<=1000000)(ho:∀o∈l,ks o.V)(hl:l.length<=100000)(hg:ks g):jf row l g=some (HO row l g)/\fX row l g=some (HO row l g):=by
 have big:302<=iu:=by decide
 constructor
 ·refine aw (ael row hr) (aw (Dr row 302 g iu hg.1 big (by decide)) (aw (a:=De row l l.length) ?_ rfl))
  refine ln l.length (fun k=>(De row l k,(k:Int))) rfl (by omega) (fun k hk=>?_) ?_
  ·have hx:ix l (k:Int)=l[k]:=fu hk
   have hf:=ho _ (List.getElem_mem hk)
   have hlen:=Iy row l k
   unfold aaq
   rw[show decide (((De row l k,(k:Int)):List af×Int).2<(l.length:Int))=true by simp;omega,cond_true]
   dsimp only
   refine au (by rw[hlen];unfold room;omega) ?_
   rw[LO,hx]
   refine aw (a:=if k=0 then vb l[k].V else l[k].V) ?_ (aw (a:=QZ row (if k=0 then vb l[k].V else l[k].V)) (Dr row 302 _ iu ?_ big (by decide)) rfl)
   ·by_cases h0:k=0
    ·subst h0;exact(vd hf).1
    ·rw[if_neg h0,show(((k:Nat):Int)==0)=false by simp;omega];rfl
   ·split
    ·exact(vd hf).2.2.1
    ·exact hf.1
  ·unfold aaq
   rw[show decide (((De row l l.length,(l.length:Int)):List af×Int).2<(l.length:Int))=false by simp,cond_false]
 ·refine iV (a:=⟨De row l l.length,zeroV⟩) ?_ (aw (Ac row hr 302 g iu hg.1 big (by decide)) rfl)
  refine gW l.length (fun k=>(⟨De row l k,zeroV⟩:bL)) rfl (by omega) (fun k hk=>?_) (az (by simp) rfl)
  have hx:ix l (k:Int)=l[k]:=fu hk
  have hf:=ho _ (List.getElem_mem hk)
  have hlen:=Iy row l k
  refine aL (by simp;omega) (au (by omega) (iV (a:=⟨if k=0 then vb l[k].V else l[k].V,l[k].Stream,l[k].Data⟩) ?_ ?_))
  ·rw[hx]
   by_cases h0:k=0
   ·subst h0;exact aL rfl (aw (vd hf).2.1 rfl)
   ·rw[if_neg h0];exact az (by simp;omega) rfl
  ·refine aw (a:=QZ row (if k=0 then vb l[k].V else l[k].V)) (Ac row hr 302 _ iu ?_ big (by decide)) (au (by dsimp only;rw[hlen];simp only[List.length_cons,List.length_nil];unfold room;omega) ?_)
   ·show W 302 (if k=0 then vb l[k].V else l[k].V)
    split
    ·exact(vd hf).2.2.1
    ·exact hf.1
   ·rw[LO,hx];rfl
end Go.AB
end
section
set_option maxRecDepth 20000
namespace Go.AB
open Go
theorem pF:sX zeroV:=⟨⟨Nat.zero_le _,fun x hx=>by cases hx⟩,by decide⟩
theorem XK(v:aa)(key:ar):(cK v key).1=zeroV\/(cK v key).1∈v.L:=by
 unfold cK
 cases hg:bc v key with
 |none=>exact .inl rfl
 |some r=>
  show r.1=zeroV\/r.1∈v.L
  unfold bc at hg
  cases hf:c6 v key with
  |none=>rw[hf]at hg;cases hg
  |some i=>
   rw[hf,aK]at hg
   split at hg
   ·injection hg with hg;subst hg;exact .inl rfl
   ·split at hg
    ·injection hg with hg;subst hg;exact .inl rfl
    ·unfold aB at hg
     split at hg
     ·rename_i hb
      injection hg with hg;subst hg
      refine .inr ?_
      show ix v.L _∈v.L
      rw[oP (by omega)]
      exact List.getElem_mem (l:=v.L) (n:=(bd ((i:Int)+1)).toNat) (by omega)
     ·cases hg
theorem Xi{x:aa}{g:aa->Nat}:∀{l:List aa},x∈l->g x<=(l.map g).sum
 |a::l,h=>by
  rcases List.mem_cons.1 h with e|e
  ·subst e;simp
  ·have:=Xi (g:=g) e
   simp;omega
theorem Wm{v x:aa}(h:sX v)(hx:x∈v.L):sX x:=by
 have h1:W 299 x:=h.1.2 x hx
 refine⟨FM 299 300 _ (by decide) h1,?_⟩
 rw[O9 299 300 x (by decide) h1]
 have h2:=Xi (g:=oY 299) hx
 have h3:=h.2
 have e:oY 300 v=1+(v.L.map (oY 299)).sum:=rfl
 omega
theorem U2{v:aa}(h:sX v)(key:ar):sX (cK v key).1:=by
 rcases XK v key with e|e
 ·rw[e];exact pF
 ·exact Wm h e
theorem Hw{d:aD}(hd:jg d)(key:ar):∀(way:List Int)(l:aa),sX l->sX (abt d key l way)
 |[],_,h=>h
 |a::way,l,h=>by
  refine Hw hd key way _ ?_
  show sX (if(cK (ay d a).V key).2 then(cK (ay d a).V key).1 else l)
  split
  ·exact U2 (hd.acL a) key
  ·exact h
theorem Pm:∀(G:List (ar×aa)),(∀x∈G,sX x.2)->(∀v∈ox G,W 301 v)/\((ox G).map (oY 301)).sum<=301*G.length
 |[],_=>⟨fun v hv=>(by cases hv),by simp[ox]⟩
 |p::G,h=>by
  obtain⟨i1,i2⟩:=Pm G fun x hx=>h x (List.mem_cons_of_mem _ hx)
  have hp:=h p List.mem_cons_self
  refine⟨fun v hv=>?_,?_⟩
  ·rcases List.mem_cons.1 hv with rfl|hv
   ·exact⟨Nat.zero_le _,fun x hx=>by cases hx⟩
   ·rcases List.mem_cons.1 hv with rfl|hv
    ·exact FM 300 301 _ (by decide) hp.1
    ·exact i1 v hv
  ·have e1:oY 301 ⟨5,0,p.1,[]⟩=1:=rfl
   have e2:=O9 300 301 p.2 (by decide) hp.1
   have e3:=hp.2
   show oY 301 ⟨5,0,p.1,[]⟩+(oY 301 p.2+((ox G).map (oY 301)).sum)<=301*(G.length+1)
   omega
theorem Wb(G:List (ar×aa))(hl:G.length<=4)(h:∀x∈G,sX x.2):ks (fI G):=by
 obtain⟨h1,h2⟩:=Pm G h
 refine⟨⟨by show(ox G).length<=301;rw[nI];omega,h1⟩,?_⟩
 show 1+((ox G).map (oY 301)).sum<=1300
 omega
theorem LJ(f:DV)(h:jg f.aS)(p:Int):ks (im f p).1.ag:=by
 unfold im
 split
 ·split
  ·split
   ·rename_i hp
    rcases HU 64 (mD f) p [] ⟨none,none,none,none⟩ hp.1 hp.2 with⟨_,e⟩|⟨way,m,e1,e2,e3⟩
    ·rw[e];exact pF.wide
    ·rw[e3]
     refine Wb _ (Gv.len _) fun x hx=>?_
     obtain⟨_,hl⟩:=Zj hx
     have hx2:=P5 f.aS x.1 _ none zeroV x.2 (fun y hy=>by cases hy) hl
     rw[<-hx2]
     exact Hw h _ _ _ pF
   ·exact pF.wide
  ·exact pF.wide
 ·exact pF.wide
def SN(d:aD)(g:aa)(p:Int):List Int:=dB d g p 4098
theorem ad7{d:aD}{g:aa}{p:Int}{n:Nat}(h1:n<=4097)(h2:(dB d g p n).length=n):dB d g p n=SN d g p:=by
 have key:∀j,dB d g p (n+j)=dB d g p n:=by
  intro j
  induction j with
  |zero=>rfl
  |succ j ih=>rw[<-Nat.add_assoc,dB,ih,if_neg (by omega)]
 unfold SN
 rw[show 4098=n+(4098 -n) by omega,key]
def aiS:bL:=⟨[],zeroV⟩
def B8(d:aD)(p:Int):bL×Int:=if(im ⟨0,d⟩ p).2=0 then(HO (SN d (im ⟨0,d⟩ p).1.ag (im ⟨0,d⟩ p).1.cQ) (lM d (SN d (im ⟨0,d⟩ p).1.ag (im ⟨0,d⟩ p).1.cQ)) (im ⟨0,d⟩ p).1.ag,0)else(aiS,(im ⟨0,d⟩ p).2)
theorem TW{d:aD}{g:aa}(hd:jg d)(hg:ks g)(p:Int):(SN d g p).length<=4097:=wQ hd hg p _
theorem Qp{d:aD}(hd:jg d)(l:List Int):∀o∈lM d l,ks o.V:=fun o ho=>by
 obtain⟨n,_,rfl⟩:=List.mem_map.1 ho
 exact hd.get n
theorem aaJ{d:aD}(hd:jg d)(p:Int):WP (B8 d p).1:=by
 unfold B8
 split
 ·have hg:=LJ ⟨0,d⟩ hd p
  refine Z4 _ (Qp hd _) ?_ hg
  unfold lM;rw[List.length_map]
  have:=TW hd hg (im ⟨0,d⟩ p).1.cQ
  omega
 ·exact⟨fun o h=>(by cases h),⟨Nat.zero_le _,fun x hx=>(by cases hx)⟩,Nat.zero_le _⟩
theorem LZ(B:Nat)(d:aD)(hd:jg d)(p:Int):my (Ep B d) p=some ((B8 d p).1,0,(B8 d p).2)/\n9 (nJ d) p=some ((B8 d p).1,0,(B8 d p).2):=by
 have f1:jU (Ep B d) p=_:=find_eq ⟨B,d⟩ p hd
 have f2:=X7 d p hd
 have e0:im ⟨B,d⟩ p=im ⟨0,d⟩ p:=rfl
 have e1:im (jW d) p=im ⟨0,d⟩ p:=rfl
 rw[e0]at f1
 rw[e1]at f2
 have hg:=LJ ⟨0,d⟩ hd p
 unfold B8
 generalize im ⟨0,d⟩ p=r at f1 f2 hg⊢
 obtain⟨x,e⟩:=r
 by_cases he:e=0
 ·subst he
  rw[if_pos rfl]
  have hg:ks x.ag:=hg
  have f1:jU (Ep B d) p=some (x,0,0):=f1
  have f2:jG (nJ d) p=some (YR x,0,0):=f2
  show my (Ep B d) p=some (HO (SN d x.ag x.cQ) (lM d (SN d x.ag x.cQ)) x.ag,0,0)/\n9 (nJ d) p=some (HO (SN d x.ag x.cQ) (lM d (SN d x.ag x.cQ)) x.ag,0,0)
  obtain⟨n,n1,n2,n3,c1⟩:=Rz ⟨B,d⟩ x hd hg
  have c2:=QB d (YR x) hd hg n1 n2 n3
  have hn:dB d x.ag x.cQ n=SN d x.ag x.cQ:=ad7 n1 n2
  have c1:fL (Ep B d) x=some (dB d x.ag x.cQ n,lM d (dB d x.ag x.cQ n),0,0):=c1
  have c2:fM (nJ d) (YR x)=some (dB d x.ag x.cQ n,lM d (dB d x.ag x.cQ n),0,0):=c2
  rw[hn]at c1 c2
  have hl:=TW hd hg x.cQ
  obtain⟨g1,g2⟩:=QI (SN d x.ag x.cQ) (l:=lM d (SN d x.ag x.cQ)) (g:=x.ag) (by omega) (Qp hd _) (by unfold lM;rw[List.length_map];omega) hg
  have n0:¬((0:Int)!=0)=true:=by decide
  generalize HO (SN d x.ag x.cQ) (lM d (SN d x.ag x.cQ)) x.ag=pg at g1 g2⊢
  generalize SN d x.ag x.cQ=R at c1 c2 g1 g2
  generalize lM d R=O at c1 c2 g1 g2
  unfold my n9
  rw[f1,f2,aK,aK,if_neg n0,if_neg n0,c1,c2,aK,aK,if_neg n0,if_neg n0,g1]
  refine⟨rfl,?_⟩
  show aJ (fX R O x.ag) _=_
  rw[g2];rfl
 ·rw[if_neg he]
  have hb:(e !=0)=true:=by simpa using he
  exact⟨aw f1 (aL hb rfl),aw f2 (aL hb rfl)⟩
end Go.AB
end
section
namespace Go.AB
open Go
theorem xV(d:aD)(p:Int):Tq d p:=by
 obtain⟨b,hb,hb2⟩:=Zg d.ak 40 (by decide)
 refine⟨b,hb,fun h=>?_⟩
 obtain⟨hl,ho⟩:=hb2 h
 have hd:jg d:=⟨by omega,ho⟩
 refine⟨hl,(B8 d p).1,(B8 d p).2,nJ d,0,fun F=>(LZ F d hd p).1,?_,(LZ 0 d hd p).2,?_⟩
 ·rfl
 ·rw[(ahF _ _ (aaJ hd p)).2,Pp]
end Go.AB
end
section
namespace Go.AB
open Go Go.RowKit Go.ChangeShapes Go.WideShapes
def uU(N:Nat)(w:World)(b:Nat):Nat:=if b<w.heap.size then N else 0
theorem Sa{P:Program}{w:World}{f:FuncId}{args:List AV}{vs:Array Value}(N:Nat)(hf:FN P f args xB fun rs _=>rs=[.bool true])(ha:mE w (uU N w) args vs):
 Calls P f vs w fun e w'=>e=.returned (.bool true)/\Below w.heap.size w w':=by
 refine(hf ⟨uU N w,fun _=>.none⟩ w vs ⟨fun _ _=>rfl,fun b hb=>?_⟩ (fun b=>.inl rfl) (fun b o h=>by cases h) ha).mono fun e w'⟨v,rs,s',G',he,hq,_,_,hr,hp⟩=>?_
 ·show uU N w b=0
  unfold uU
  rw[if_neg (by omega)]
 ·subst hq
  refine⟨?_,⟨hp.os,hp.tape,hp.output,hp.size,fun b hb=>hp.frame b hb (.inr rfl)⟩⟩
  rw[he]
  have:=VR.gx hr.1
  rw[this]
def Ja(w:World)(R:Nat->Nat)(as1:List AV)(cs:List Value):Prop:=cs.length=as1.length/\∀(j:Nat)(a:AV)(v:Value),as1[j]? =some a->cs[j]? =some v->VR w R a v
theorem Ja.one{w:World}{R:Nat->Nat}{a:AV}{v:Value}(h:VR w R a v):Ja w R [a] [v]:=by
 refine⟨rfl,fun j a' v' h1 h2=>?_⟩
 cases j with
 |zero=>cases h1;cases h2;exact h
 |succ j=>simp at h1
theorem Ja.append{w:World}{R:Nat->Nat}{as1 bs:List AV}{cs ds:List Value}(h:Ja w R as1 cs)(k:Ja w R bs ds):Ja w R (as1++bs) (cs++ds):=by
 refine⟨by rw[List.length_append,List.length_append,h.1,k.1],fun j a v h1 h2=>?_⟩
 rcases Nat.lt_or_ge j as1.length with hj|hj
 ·rw[List.getElem?_append_left hj]at h1
  rw[List.getElem?_append_left (by rw[h.1];exact hj)]at h2
  exact h.2 j a v h1 h2
 ·rw[List.getElem?_append_right hj]at h1
  rw[List.getElem?_append_right (by rw[h.1];exact hj),h.1]at h2
  exact k.2 _ a v h1 h2
def ku(P:Program)(t:TypeId){α:Type}(n:Nat)(C:α->List AV)(wf:α->Prop):Prop:=
 ∀(H:Type)(enc:TypeId×Value->H)(w:World)(fuel:Nat)(cs:List Value)(x:DataW H×List MemPlace),DataW.trod enc P w 0 (fun _=>true) true fuel t cs=some x->
  cs.length=n/\∃a:α,wf a/\Fl (C a)/\∃N0,∀N,N0<=N->Ja w (uU N w) (C a) cs
def Ao(P:Program)(t:TypeId)(α:Type)[aP α](wf:α->Prop):Prop:=ku P t (aP.w α) (aP.cells:α->List AV) wf
section
variable{P:Program}{t:TypeId}
theorem Cq{a:AV}(h:sc a=true):Fl [a]:=by
 intro c hc
 rw[List.mem_singleton]at hc;rw[hc];exact h
theorem Sp(ht:P.underlying t=some .bool):Ao P t Bool fun _=>True:=by
 intro H enc w fuel cs x h
 obtain⟨b,rfl,_⟩:=DataW.trod_bool ht h
 exact⟨rfl,b,trivial,Cq rfl,0,fun N _=>Ja.one (.bool b)⟩
theorem xC(ht:P.underlying t=some (.int .i64)):Ao P t Int fun n=>-9223372036854775808<=n/\n<=9223372036854775807:=by
 intro H enc w fuel cs x h
 obtain⟨n,rfl,_,hw⟩:=DataW.trod_int ht h
 refine⟨rfl,n,?_,Cq rfl,0,fun N _=>Ja.one (.int _ n)⟩
 simpa[Lit.wf,IntKind.min,IntKind.max,IntKind.signed,IntKind.bits]using hw
theorem LI(ht:P.underlying t=some .string):Ao P t ar fun s=>s.b.length<=maxLen:=by
 intro H enc w fuel cs x h
 obtain⟨s,rfl,_,hs⟩:=DataW.trod_string ht h
 refine⟨rfl,⟨s.data.toList⟩,by simpa using hs,Cq rfl,0,fun N _=>?_⟩
 have:=VR.str (w:=w) (R:=uU N w) s.data.toList
 exact Ja.one this
theorem DE{α:Type}{Q:Nat->α->Prop}:∀n:Nat,(∀i,i<n->∃a,Q i a)->∃l:List α,l.length=n/\∀(i:Nat)(a:α),l[i]? =some a->Q i a
 |0,_=>⟨[],rfl,fun i a h=>by simp at h⟩
 |n+1,h=>by
  obtain⟨l,h1,h2⟩:=DE n fun i hi=>h i (by omega)
  obtain⟨a,ha⟩:=h n (by omega)
  refine⟨l++[a],by simp[h1],fun i x hx=>?_⟩
  rcases Nat.lt_or_ge i n with hi|hi
  ·rw[List.getElem?_append_left (by omega)]at hx;exact h2 i x hx
  ·rw[List.getElem?_append_right (by omega)]at hx
   have:i=n:=by
    have:=(List.getElem?_eq_some_iff.1 hx).1
    simp at this;omega
   subst this
   rw[h1,Nat.sub_self]at hx
   injection hx with hx;rw[<-hx];exact ha
theorem common{Q:Nat->Nat->Prop}:∀n:Nat,(∀i,i<n->∃N0,∀N,N0<=N->Q i N)->∃N0,∀N,N0<=N->∀i,i<n->Q i N
 |0,_=>⟨0,fun _ _ i h=>absurd h (Nat.not_lt_zero i)⟩
 |n+1,h=>by
  obtain⟨a,ha⟩:=common n fun i hi=>h i (by omega)
  obtain⟨b,hb⟩:=h n (by omega)
  refine⟨max a b,fun N hN i hi=>?_⟩
  rcases Nat.lt_or_ge i n with h1|h1
  ·exact ha N (by omega) i h1
  ·have:i=n:=by omega
   rw[this];exact hb N (by omega)
theorem Wr{α:Type}[aP α](l:List α){i r:Nat}{a:α}(hi:l[i]? =some a)(hr:r<aP.w α):(flat l)[i*aP.w α+r]? =(aP.cells a)[r]? :=by
 have h1:=lU l (aP.w α) i 1 rfl
 obtain⟨hlt,he⟩:=List.getElem?_eq_some_iff.1 hi
 have h2:(l.drop i).take 1=[a]:=by rw[List.drop_eq_getElem_cons hlt,he];rfl
 rw[h2,mU,sd,List.append_nil,Nat.one_mul]at h1
 rw[<-h1]
 unfold AB.sub
 rw[List.getElem?_take,if_pos hr,List.getElem?_drop]
end
end Go.AB
end
section
namespace Go.AB
open Go Go.RowKit Go.ChangeShapes Go.WideShapes
section
variable{P:Program}
theorem y7{H:Type}{enc:TypeId×Value->H}(hl:laidOutB P=true){W W':World}(hb:Below W.heap.size W W'):
 ∀{ts:List TypeId}{vs:List Value}{ds:List (DataW H)}{ps:List MemPlace},(∀t∈ts,P.readableRec t=true/\t<P.types.size)->DataW.TrodAll enc P W 0 (fun _=>true) true ts vs ds ps->
  DataW.TrodAll enc P W' 0 (fun b=>decide (b<W.heap.size)) true ts vs ds ps
 |[],[],[],_,_,h=>h
 |t::ts,v::vs,d::ds,_,hr,h=>by
  have hlt:=h.lt
  obtain⟨p,q,h1,h2,rfl⟩:=h
  have ht:=hr t List.mem_cons_self
  exact⟨p,q,Below.trod hl ht.1 ht.2 h1 hb fun x hx=>hlt x (List.mem_append_left _ hx),y7 hl hb (fun t ht=>hr t (List.mem_cons_of_mem _ ht)) h2,rfl⟩
 |[],_::_,_,_,_,h=>h.elim
 |[],[],_::_,_,_,h=>h.elim
 |_::_,[],_,_,_,h=>h.elim
 |_::_,_::_,[],_,_,h=>h.elim
theorem Xh{H:Type}{enc:TypeId×Value->H}{fn:Func}{s:ChangeSpec}{f:FuncId}{W:World}{args:Array Value}{ds gs:List (DataW H)}{before:List MemPlace}{tb:TypeId}
 (abm:s.vars=[])(si:fn.resultTypes= #[tb])(htb:P.underlying tb=some .bool)(hl:laidOutB P=true)(hr:∀t∈fn.params.toList,P.readableRec t=true/\t<P.types.size)
 (agV:∀ds:List (DataW H),ds.length=fn.params.toList.length->s.fn H ds={results:=[.lit (.bool true)],args:=ds})
 (hW:DataW.Whole enc P fn.params.toList s.vars false W args.toList ds gs before)
 (hc:Calls P f args W fun e w'=>e=.returned (.bool true)/\Below W.heap.size W w'):
 Calls P f args W fun e W'=>∃v,e=.returned v/\s.post enc P fn false true false false W args v W':=by
 refine hc.mono fun e W'⟨he,hb⟩=>⟨.bool true,he,?_⟩
 have hW':=hW
 obtain⟨p,q,hA,hV,rfl,hfz,hnd⟩:=hW
 rw[abm]at hV
 obtain⟨rfl,rfl⟩:=trodVars_none hV
 have hs:=agV ds (trodAll_length hA).2
 refine⟨ds,[],_,[],p,[],hW',?_,?_,?_,?_,fun h=>by cases h⟩
 ·rw[List.append_nil,hs,si]
  exact trodAll_mk1 (shut_bool htb true)
 ·rw[List.append_nil,hs]
  exact y7 hl hb hr hA
 ·rw[List.append_nil,hs,abm]
  exact rfl
 ·exact World.keptBut_mono (fun p hp=>hp.elim) (hb.frame fun _=>False)
def FH(P:Program)(fs:List (TypeId×Nat))(o:Nat){α:Type}(n:Nat)(C:α->List AV)(wf:α->Prop):Prop:=
 ∀(H:Type)(enc:TypeId×Value->H)(w:World)(fuel:Nat)(cs:List Value),(∀f∈fs,∃x,DataW.trod enc P w 0 (fun _=>true) true fuel f.1 ((cs.drop f.2).take (P.cellsOf f.1))=some x)->
  ∃a:α,wf a/\Fl (C a)/\∃N0,∀N,N0<=N->Ja w (uU N w) (C a) ((cs.drop o).take n)
theorem HK{o:Nat}:FH P [] o 0 (fun _:Unit=>[]) fun _=>True:=fun _ _ _ _ _ _=>⟨(),trivial,(fun _ h=>absurd h List.not_mem_nil),0,fun _ _=>⟨by simp,fun j a v h=>by simp at h⟩⟩
theorem nW{t:TypeId}{o n1 n2:Nat}{fs:List (TypeId×Nat)}{α β:Type}{C1:α->List AV}{C2:β->List AV}{wf1:α->Prop}{wf2:β->Prop}
 (h1:ku P t n1 C1 wf1)(hc:P.cellsOf t=n1)(h2:FH P fs (o+n1) n2 C2 wf2):FH P ((t,o)::fs) o (n1+n2) (fun p:α×β=>C1 p.1++C2 p.2) fun p=>wf1 p.1/\wf2 p.2:=by
 intro H enc w fuel cs h
 obtain⟨x,hx⟩:=h _ List.mem_cons_self
 obtain⟨_,a,ha,hfa,N1,hN1⟩:=h1 H enc w fuel _ x hx
 obtain⟨b,hb,hfb,N2,hN2⟩:=h2 H enc w fuel cs fun f hf=>h f (List.mem_cons_of_mem _ hf)
 refine⟨(a,b),⟨ha,hb⟩,fun c hc=>(List.mem_append.1 hc).elim (hfa c) (hfb c),max N1 N2,fun N hN=>?_⟩
 rw[List.take_add,List.drop_drop]
 refine Ja.append ?_ (hN2 N (by omega))
 rw[<-hc]
 exact hN1 N (by omega)
theorem ku.map{t:TypeId}{n:Nat}{α β:Type}{C:α->List AV}{wf:α->Prop}(h:ku P t n C wf){C':β->List AV}{wf':β->Prop}(g:α->β)(hC:∀a,C' (g a)=C a)(hw:∀a,wf a->wf' (g a)):ku P t n C' wf':=by
 intro H enc w fuel cs x hx
 obtain⟨h1,a,h2,h3,N0,h4⟩:=h H enc w fuel cs x hx
 exact⟨h1,g a,hw a h2,by rw[hC];exact h3,N0,by rw[hC];exact h4⟩
theorem Nk{t:TypeId}{fs:Array Field}{n:Nat}{α:Type}{C:α->List AV}{wf:α->Prop}(ht:P.underlying t=some (.struct fs))(hn:P.cellsOf t=n)
 (hf:FH P (fs.toList.map fun f=>(f.type,f.offset)) 0 n C wf):ku P t n C wf:=by
 intro H enc w fuel cs x h
 obtain⟨xs,m,_,_,hl,hxl,hel⟩:=DataW.trod_struct ht h
 obtain⟨a,ha,hfa,N0,hN⟩:=hf H enc w m cs fun f hf=>by
  obtain⟨g,hg,rfl⟩:=List.mem_map.1 hf
  obtain⟨i,hi⟩:=List.getElem?_of_mem hg
  have h1:=hel i g (by rw[<-Array.getElem?_toList];exact hi)
  have hi':=(List.getElem?_eq_some_iff.1 hi).1
  rw[List.getElem?_eq_getElem (by simpa[hxl]using hi')]at h1
  exact⟨_,h1⟩
 refine⟨by rw[hl,hn],a,ha,hfa,N0,fun N h=>?_⟩
 have:=hN N h
 rwa[List.drop_zero,List.take_of_length_le (by omega)]at this
section
variable{H:Type}{enc:TypeId×Value->H}{w:World}{t:TypeId}{α:Type}[aP α]{wf:α->Prop}{b0:Nat}{v:Value}{d:DataW H}{ps:List MemPlace}
theorem Xv(hs:(∃fs,P.underlying t=some (.struct fs))\/∃n e,P.underlying t=some (.array n e))(he:Ao P t α wf)(vm:Value.okWide P w .any b0 t v)(h:DataW.Trod enc P w 0 (fun _=>true) true t v d ps):
 ∃a:α,wf a/\∃N0,∀N,N0<=N->VR w (uU N w) (.agg (aP.cells a)) v:=by
 have hv:∃cs,v=.agg cs:=by
  unfold Value.okWide at vm
  rcases hs with⟨fs,hs⟩|⟨n,e,hs⟩<;>rw[hs]at vm<;>obtain⟨cs,rfl,_⟩:=vm<;>exact⟨cs,rfl⟩
 obtain⟨cs,rfl⟩:=hv
 obtain⟨fuel,hf⟩:=h
 obtain⟨_,a,ha,hfl,N0,hN⟩:=he H enc w fuel _ _ hf
 refine⟨a,ha,N0,fun N h=>?_⟩
 have h1:=hN N h
 exact .agg _ _ hfl (by simpa[Value.cells]using h1.1) fun j c v h2 h3=>h1.2 j c v h2 (by simpa[Value.cells]using h3)
theorem Sn(hs:∀cs,v≠.agg cs)(he:Ao P t α wf)(h:DataW.Trod enc P w 0 (fun _=>true) true t v d ps):
 ∃a:α,wf a/\∃N0,∀N,N0<=N->Ja w (uU N w) (aP.cells a) [v]:=by
 obtain⟨fuel,hf⟩:=h
 obtain⟨_,a,ha,_,N0,hN⟩:=he H enc w fuel _ _ hf
 refine⟨a,ha,N0,fun N h=>?_⟩
 have h1:=hN N h
 have:v.cells.toList=[v]:=by cases v<;>first|rfl|exact absurd rfl (hs _)
 rwa[this]at h1
theorem Ja.head{R:Nat->Nat}{a:AV}(h:Ja w R [a] [v]):VR w R a v:=h.2 0 a v rfl rfl
theorem Xw(ht:P.underlying t=some (.int .i64))(vm:Value.okWide P w .any b0 t v)(h:DataW.Trod enc P w 0 (fun _=>true) true t v d ps):
 ∃n:Int,(-9223372036854775808<=n/\n<=9223372036854775807)/\∃N0,∀N,N0<=N->VR w (uU N w) (.int .i64 n) v:=by
 obtain⟨n,rfl,_⟩:=open_int ht vm h
 obtain⟨a,ha,N0,hN⟩:=Sn (fun _ h=>by cases h) (xC ht) h
 exact⟨a,ha,N0,fun N h=>(hN N h).head⟩
end
theorem af2{w:World}{R:Nat->Nat}{a0 a1:AV}{v0 v1:Value}(h0:VR w R a0 v0)(h1:VR w R a1 v1):mE w R [a0,a1] #[v0,v1]:=⟨rfl,fun j a v k1 k2=>by match j,k1,k2 with|0,k1,k2=>(cases k1;cases k2;exact h0)|1,k1,k2=>(cases k1;cases k2;exact h1)⟩
end
end Go.AB
end
section
namespace Go.AB
open Go
def pw(P:Program)(t:TypeId)(L:List (TypeId×Nat)):Bool:=match P.underlying t with
 |some (.struct fs)=>fs.toList.map (fun f=>(f.type,f.offset))==L
 |_=>false
theorem BG{P:Program}{t:TypeId}{L:List (TypeId×Nat)}{n:Nat}{α:Type}{C:α->List AV}{wf:α->Prop}(hs:pw P t L=true)(hn:P.cellsOf t=n)(hf:FH P L 0 n C wf):ku P t n C wf:=by
 unfold pw at hs
 split at hs
 ·rename_i fs ht
  have he:=eq_of_beq hs
  exact Nk ht hn (by rw[he];exact hf)
 ·cases hs
end Go.AB
end
section
namespace Go.AB
open Go Go.RowKit Go.ChangeShapes Go.WideShapes
def gD(K:Nat)(P:Program)(t:TypeId){α:Type}(n:Nat)(C:α->List AV)(wf:α->Prop):Prop:=
 ∀(H:Type)(enc:TypeId×Value->H)(w:World)(fuel:Nat)(cs:List Value)(x:DataW H×List MemPlace),fuel<=K->DataW.trod enc P w 0 (fun _=>true) true fuel t cs=some x->
  cs.length=n/\∃a:α,wf a/\Fl (C a)/\∃N0,∀N,N0<=N->Ja w (uU N w) (C a) cs
def Ff(K:Nat)(P:Program)(fs:List (TypeId×Nat))(o:Nat){α:Type}(n:Nat)(C:α->List AV)(wf:α->Prop):Prop:=
 ∀(H:Type)(enc:TypeId×Value->H)(w:World)(fuel:Nat)(cs:List Value),fuel<=K->(∀f∈fs,∃x,DataW.trod enc P w 0 (fun _=>true) true fuel f.1 ((cs.drop f.2).take (P.cellsOf f.1))=some x)->
  ∃a:α,wf a/\Fl (C a)/\∃N0,∀N,N0<=N->Ja w (uU N w) (C a) ((cs.drop o).take n)
section
variable{P:Program}{t:TypeId}
theorem ku.b{n:Nat}{α:Type}{C:α->List AV}{wf:α->Prop}(h:ku P t n C wf)(K:Nat):gD K P t n C wf:=fun H enc w fuel cs x _ hx=>h H enc w fuel cs x hx
theorem gD.all{n:Nat}{α:Type}{C:α->List AV}{wf:α->Prop}(h:∀K,gD K P t n C wf):ku P t n C wf:=fun H enc w fuel cs x hx=>h fuel H enc w fuel cs x (Nat.le_refl _) hx
theorem gD.le{n:Nat}{α:Type}{C:α->List AV}{wf:α->Prop}{K K':Nat}(h:gD K P t n C wf)(hk:K'<=K):gD K' P t n C wf:=fun H enc w fuel cs x hf hx=>h H enc w fuel cs x (Nat.le_trans hf hk) hx
theorem gD.zero{n:Nat}{α:Type}{C:α->List AV}{wf:α->Prop}:gD 0 P t n C wf:=fun H enc w fuel cs x hf hx=>by
 have:fuel=0:=by omega
 subst this
 simp[DataW.trod]at hx
theorem gD.map{K n:Nat}{α β:Type}{C:α->List AV}{wf:α->Prop}(h:gD K P t n C wf){C':β->List AV}{wf':β->Prop}(g:α->β)(hC:∀a,C' (g a)=C a)(hw:∀a,wf a->wf' (g a)):gD K P t n C' wf':=by
 intro H enc w fuel cs x hf hx
 obtain⟨h1,a,h2,h3,N0,h4⟩:=h H enc w fuel cs x hf hx
 exact⟨h1,g a,hw a h2,by rw[hC];exact h3,N0,by rw[hC];exact h4⟩
theorem Qs{K o:Nat}:Ff K P [] o 0 (fun _:Unit=>[]) fun _=>True:=fun _ _ _ _ _ _ _=>⟨(),trivial,(fun _ h=>absurd h List.not_mem_nil),0,fun _ _=>⟨by simp,fun j a v h=>by simp at h⟩⟩
theorem pn{K:Nat}{t:TypeId}{o n1 n2:Nat}{fs:List (TypeId×Nat)}{α β:Type}{C1:α->List AV}{C2:β->List AV}{wf1:α->Prop}{wf2:β->Prop}
 (h1:gD K P t n1 C1 wf1)(hc:P.cellsOf t=n1)(h2:Ff K P fs (o+n1) n2 C2 wf2):Ff K P ((t,o)::fs) o (n1+n2) (fun p:α×β=>C1 p.1++C2 p.2) fun p=>wf1 p.1/\wf2 p.2:=by
 intro H enc w fuel cs hk h
 obtain⟨x,hx⟩:=h _ List.mem_cons_self
 obtain⟨_,a,ha,hfa,N1,hN1⟩:=h1 H enc w fuel _ x hk hx
 obtain⟨b,hb,hfb,N2,hN2⟩:=h2 H enc w fuel cs hk fun f hf=>h f (List.mem_cons_of_mem _ hf)
 refine⟨(a,b),⟨ha,hb⟩,fun c hc=>(List.mem_append.1 hc).elim (hfa c) (hfb c),max N1 N2,fun N hN=>?_⟩
 rw[List.take_add,List.drop_drop]
 refine Ja.append ?_ (hN2 N (by omega))
 rw[<-hc]
 exact hN1 N (by omega)
theorem J6{K:Nat}{L:List (TypeId×Nat)}{n:Nat}{α:Type}{C:α->List AV}{wf:α->Prop}(hs:pw P t L=true)(hn:P.cellsOf t=n)(hf:Ff K P L 0 n C wf):gD (K+1) P t n C wf:=by
 unfold pw at hs
 split at hs
 ·rename_i fs ht
  have he:=eq_of_beq hs
  subst he
  intro H enc w fuel cs x hk h
  obtain⟨xs,m,rfl,_,hl,hxl,hel⟩:=DataW.trod_struct ht h
  obtain⟨a,ha,hfa,N0,hN⟩:=hf H enc w m cs (by omega) fun f hf=>by
   obtain⟨g,hg,rfl⟩:=List.mem_map.1 hf
   obtain⟨i,hi⟩:=List.getElem?_of_mem hg
   have h1:=hel i g (by rw[<-Array.getElem?_toList];exact hi)
   have hi':=(List.getElem?_eq_some_iff.1 hi).1
   rw[List.getElem?_eq_getElem (by simpa[hxl]using hi')]at h1
   exact⟨_,h1⟩
  refine⟨by rw[hl,hn],a,ha,hfa,N0,fun N h=>?_⟩
  have:=hN N h
  rwa[List.drop_zero,List.take_of_length_le (by omega)]at this
 ·cases hs
theorem SQ{w:World}{α:Type}[aP α]{wf:α->Prop}{a:Addr}{len cap:Nat}(hl:len<=cap)(hm:cap<=maxLen)
 (each:∀i,i<len->∃x:α×List Value,wf x.1/\Fl (aP.cells x.1)/\w.cells? 0 (a.add (i*aP.w α)) (aP.w α)=some x.2/\∃N0,∀N,N0<=N->Ja w (uU N w) (aP.cells x.1) x.2):
 ∃l:List α,(l.length<=maxLen/\∀a∈l,wf a)/\Fl [.sl false (aP.w α) l.length (flat l)]/\∃N0,∀N,N0<=N->Ja w (uU N w) [.sl false (aP.w α) l.length (flat l)] [.slice (some a) len cap]:=by
 have hw:0<aP.w α:=aP.pos
 rcases Nat.eq_zero_or_pos len with h0|h0
 ·subst h0
  exact⟨[],⟨Nat.zero_le _,fun _ h=>absurd h List.not_mem_nil⟩,Cq rfl,0,fun N _=>.one (.sle _ _ _)⟩
 obtain⟨b,off,spot⟩:=a
 have acV:spot=none/\b<w.heap.size:=by
  obtain⟨x,_,_,h2,_⟩:=each 0 h0
  obtain⟨_,h3,h4⟩:=World.cells?_some h2
  have h5:=h4 0 hw
  have hxl:0<x.2.length:=by omega
  rw[List.getElem?_eq_getElem hxl]at h5
  unfold World.cell? at h5
  have e1:(((⟨b,off,spot⟩:Addr).add (0*aP.w α)).add 0).block=b:=by
   unfold Addr.add;repeat' split
   all_goals rfl
  have e2:(((⟨b,off,spot⟩:Addr).add (0*aP.w α)).add 0).spot.isSome=spot.isSome:=by
   cases spot with
   |none=>unfold Addr.add;repeat' split
          all_goals simp_all
   |some q=>unfold Addr.add;repeat' split
            all_goals simp_all
  rw[e1,e2]at h5
  split at h5
  ·rename_i hh
   refine⟨?_,(Array.getElem?_eq_some_iff.1 hh).1⟩
   cases spot with
   |none=>rfl
   |some q=>simp at h5
  ·cases h5
 obtain⟨rfl,hb⟩:=acV
 obtain⟨L,hL,hQ⟩:=DE len each
 have hx:∀i,i<len->∃x,L[i]? =some x:=fun i hi=>⟨L[i]'(by omega),List.getElem?_eq_getElem (by omega)⟩
 obtain⟨N0,hN0⟩:=common (Q:=fun i N=>∀x,L[i]? =some x->Ja w (uU N w) (aP.cells x.1) x.2) len fun i hi=>by
  obtain⟨x,hx⟩:=hx i hi
  obtain⟨_,_,_,N0,h⟩:=hQ i x hx
  exact⟨N0,fun N hN y hy=>by rw[hx]at hy;cases hy;exact h N hN⟩
 have hwf:∀a∈L.map (·.1),wf a/\Fl (aP.cells a):=by
  intro a ha
  obtain⟨x,hx,rfl⟩:=List.mem_map.1 ha
  obtain⟨i,hi⟩:=List.getElem?_of_mem hx
  have:=hQ i x hi
  exact⟨this.1,this.2.1⟩
 have lY:∀(j:Nat)(c:AV),(flat (L.map (·.1)))[j]? =some c->∃v,w.cell? ⟨b,off+j,none⟩=some v/\∀N,N0<=N->VR w (uU N w) c v:=by
  intro j c hj
  have hjl:=(List.getElem?_eq_some_iff.1 hj).1
  rw[ao,List.length_map,hL]at hjl
  have hi:j/aP.w α<len:=Nat.div_lt_of_lt_mul (by rw[Nat.mul_comm];exact hjl)
  have hr:j % aP.w α<aP.w α:=Nat.mod_lt _ hw
  have hje:j=j/aP.w α*aP.w α+j % aP.w α:=by rw[Nat.mul_comm];exact(Nat.div_add_mod _ _).symm
  obtain⟨x,hx⟩:=hx _ hi
  have h1:=Wr (L.map (·.1)) (i:=j/aP.w α) (a:=x.1) (by rw[List.getElem?_map,hx];rfl) hr
  rw[<-hje,hj]at h1
  obtain⟨_,_,h2,_⟩:=hQ _ x hx
  obtain⟨_,h3,h4⟩:=World.cells?_some h2
  have h5:=h4 _ hr
  rw[add_plain,add_plain,Nat.add_assoc,<-hje]at h5
  refine⟨x.2[j % aP.w α]'(by omega),by rw[h5,List.getElem?_eq_getElem],fun N hN=>?_⟩
  exact(hN0 N hN _ hi x hx).2 _ _ _ h1.symm (List.getElem?_eq_getElem _)
 refine⟨L.map (·.1),⟨by rw[List.length_map,hL];omega,fun a ha=>(hwf a ha).1⟩,Cq rfl,max N0 (off+len*aP.w α),fun N hN=>.one ?_⟩
 rw[List.length_map,hL]
 refine .sl false (aP.w α) len _ b off cap (fun j=>(w.cell? ⟨b,off+j,none⟩).getD default) ?_ ?_ ?_ hl ?_ ?_
 ·intro c hcm
  unfold flat at hcm
  obtain⟨l,hl,hcl⟩:=List.mem_flatten.1 hcm
  obtain⟨a,ha,rfl⟩:=List.mem_map.1 hl
  exact(hwf a ha).2 c hcl
 ·rw[ao,List.length_map,hL]
 ·rw[ao,List.length_map,hL]
  unfold uU
  rw[if_pos hb];omega
 ·intro j c hj
  obtain⟨v,h1,_⟩:=lY j c hj
  rw[h1];rfl
 ·intro j c hj
  obtain⟨v,h1,h2⟩:=lY j c hj
  simp only[h1,Option.getD_some];exact h2 N (by omega)
theorem BH{K:Nat}{e:TypeId}{α:Type}[aP α]{wf:α->Prop}(ht:P.underlying t=some (.slice e))(hc:P.cellsOf e=aP.w α)(he:gD K P e (aP.w α) (aP.cells:α->List AV) wf):
 gD (K+1) P t 1 (fun l:List α=>[.sl false (aP.w α) l.length (flat l)]) fun l=>l.length<=maxLen/\∀a∈l,wf a:=by
 intro H enc w fuel cs x hk h
 rcases DataW.trod_slice ht h with⟨rfl,_⟩|⟨a,len,cap,elems,rest,n,rfl,rfl,_,_,hl,hm,hlen,hel,_⟩
 ·exact⟨rfl,[],⟨Nat.zero_le _,fun _ h=>absurd h List.not_mem_nil⟩,Cq rfl,0,fun N _=>.one (.slnil _ _)⟩
 ·refine⟨rfl,SQ hl hm fun i hi=>?_⟩
  have h1:=hel i hi
  rw[hc,List.getElem?_eq_getElem (by omega),Option.bind_eq_some_iff]at h1
  obtain⟨cs,h2,h3⟩:=h1
  obtain⟨_,x,h4,h5,h6⟩:=he H enc w n cs _ (by omega) h3
  exact⟨(x,cs),h4,h5,h2,h6⟩
theorem Nj{e:TypeId}{α:Type}[aP α]{wf:α->Prop}(ht:P.underlying t=some (.slice e))(hc:P.cellsOf e=aP.w α)(he:Ao P e α wf):
 ku P t 1 (fun l:List α=>[.sl false (aP.w α) l.length (flat l)]) fun l=>l.length<=maxLen/\∀a∈l,wf a:=
 gD.all fun K=>(BH ht hc (ku.b he K)).le (Nat.le_succ K)
theorem Mt{L:List (TypeId×Nat)}(hs:pw P t L=true):∃fs,P.underlying t=some (.struct fs):=by
 unfold pw at hs
 split at hs
 ·rename_i fs ht;exact⟨fs,ht⟩
 ·cases hs
end
end Go.AB
end
section
namespace Go.AB
open Go Go.ChangeShapes Go.WideShapes Go.ChangeAt Go.RowKit Go.Proofs.YtkeagffgdajggaaGreat Go.Proofs
open Go.Proofs.Tryz (prog)
inductive mA:aa->Prop where
 |mk (x:aa) (h1:-9223372036854775808<=x.Kind/\x.Kind<=9223372036854775807) (h2:-9223372036854775808<=x.N/\x.N<=9223372036854775807) (h3:x.S.b.length<=maxLen) (h4:x.L.length<=maxLen) (h5:∀v∈x.L,mA v):mA x
theorem Xx:Ao prog 32 aa mA:=by
 refine gD.all fun K=>?_
 induction K using Nat.strongRecOn with|ind K ih=>
 cases K with
 |zero=>exact gD.zero
 |succ K=>
  have hs:gD K prog 30 1 (fun l:List aa=>[.sl false 4 l.length (flat l)]) (fun l=>l.length<=maxLen/\∀a∈l,mA a):=by
   cases K with
   |zero=>exact gD.zero
   |succ k=>exact BH (by kernel_rfl) (by kernel_rfl) (ih k (by omega))
  exact gD.map (J6 (L:=[(3,0),(3,1),(9,2),(30,3)]) (by kernel_rfl) (by kernel_rfl) (pn ((xC (P:=prog) (t:=3) (by kernel_rfl)).b K) (by kernel_rfl) (pn ((xC (P:=prog) (t:=3) (by kernel_rfl)).b K) (by kernel_rfl) (pn ((LI (P:=prog) (t:=9) (by kernel_rfl)).b K) (by kernel_rfl) (pn hs (by kernel_rfl) Qs)))))
   (fun p=>⟨p.1,p.2.1,p.2.2.1,p.2.2.2.1⟩) (fun p=>by rw[eI];rfl) (fun p h=>.mk _ h.1 h.2.1 h.2.2.1 h.2.2.2.1.1 h.2.2.2.1.2)
def rR(x:af):Prop:=mA x.V/\True/\x.Data.b.length<=maxLen/\True
theorem XA:Ao prog 62 af rR:=
 ku.map (BG (L:=[(32,0),(4,4),(9,5)]) (by kernel_rfl) (by kernel_rfl) (nW Xx (by kernel_rfl) (nW (Sp (P:=prog) (t:=4) (by kernel_rfl)) (by kernel_rfl) (nW (LI (P:=prog) (t:=9) (by kernel_rfl)) (by kernel_rfl) HK))))
  (fun p=>⟨p.1,p.2.1,p.2.2.1⟩) (fun p=>by first|rfl|(simp only[eI,mR];rfl)) (fun _ h=>h)
theorem Xy:ku prog 36 1 (fun l:List af=>[.sl false 6 l.length (flat l)]) (fun l=>l.length<=maxLen/\∀a∈l,rR a):=Nj (by kernel_rfl) (by kernel_rfl) XA
def S2(x:aD):Prop:=(x.ak.length<=maxLen/\∀a∈x.ak,rR a)/\(-9223372036854775808<=x.cM/\x.cM<=9223372036854775807)/\True
theorem Xz:Ao prog 38 aD S2:=
 ku.map (BG (L:=[(36,0),(3,1)]) (by kernel_rfl) (by kernel_rfl) (nW Xy (by kernel_rfl) (nW (xC (P:=prog) (t:=3) (by kernel_rfl)) (by kernel_rfl) HK)))
  (fun p=>⟨p.1,p.2.1⟩) (fun p=>by first|rfl|(simp only[eI,Jd];rfl)) (fun _ h=>h)
theorem zT:ownKnob Tryz.prog.godebug=none:=by kernel_rfl
theorem xU:laidOutB Tryz.prog=true:=by kernel_rfl
theorem Bx:Tryz.prog.underlying 4=some .bool:=by kernel_rfl
set_option maxRecDepth 100000 in
theorem zS{H:Type}{enc:TypeId×Value->H}{W:World}{base:Nat}{args:Array Value}{ds gs:List (DataW H)}{before:List MemPlace}
 (agX:∀(j:Nat) t v,Tryz.f5.params[j]? =some t->args[j]? =some v->Value.okWide Tryz.prog W .any base t v)
 (hW:DataW.Whole enc Tryz.prog Tryz.f5.params.toList Rows.viewDocsSpec.vars false W args.toList ds gs before):
 Calls Tryz.prog 5 args W fun e w'=>e=.returned (.bool true)/\Below W.heap.size W w':=by
 obtain⟨p,q,hA0,hV,rfl,hfz,hnd⟩:=hW
 have vm:=agX
 have hA:DataW.TrodAll enc Tryz.prog W 0 (fun _=>true) true Tryz.f5.params.toList args.toList ds p:=hA0
 have hp:Tryz.f5.params= #[38,3]:=by kernel_rfl
 rw[hp]at hA vm
 obtain⟨v0,v1,d0,d1,p0,p1,rfl,rfl,rfl,h0,h1⟩:=trodAll_two hA
 obtain⟨x0,w0,N0,k0⟩:=Xv (.inl (Mt (L:=[(36,0),(3,1)]) (by kernel_rfl))) Xz (vm 0 38 v0 rfl rfl) h0
 obtain⟨x1,w1,N1,k1⟩:=Xw (by kernel_rfl) (vm 1 3 v1 rfl rfl) h1
 refine Sa (max N0 N1) ?_ (af2 (k0 _ (by omega)) (k1 _ (by omega)))
 exact(Bw (xV x0 x1)).app rfl
end Go.AB
namespace Go.Proofs.YtkeagffgdajggaaGreat
open Go.ChangeShapes Go.WideShapes Go.ChangeAt Go.RowKit
set_option maxRecDepth 100000 in
theorem Fe(os:Os)(started:os.Started)(H:Type)(enc:TypeId×Value->H):
 ReturnsInHanded {} Tryz.checked os 5 .any (Rows.viewDocsSpec.pre6 enc Tryz.prog Tryz.f5 Rows.viewDocsRow.domain false) (Rows.viewDocsSpec.post enc Tryz.prog Tryz.f5 false true false false):=by
 refine returnsInHanded_of_change (C:=Tryz.checked) AB.zT started (by kernel_rfl) Tryz.func5
  (ChangeSpec.witness6 (enc:=enc) (C:=Tryz.checked) false ⟨#[],#[.agg #[.slice none 0 0,.int .i64 0],.int .i64 0],[]⟩ 8 (by kernel_rfl) (by kernel_rfl) (by kernel_rfl) (by kernel_rfl)) ?_
 intro W base args ds gs before vm hW _ _
 exact AB.Xh rfl (by kernel_rfl) AB.Bx AB.xU (of_decide_eq_true (by kernel_rfl)) (fun ds h=>by
  match ds,h with
  |[_,_],_=>rfl) hW (AB.zS vm hW)
theorem fR{a b:Bool}(h:a=true)(k:b=true):(a&&b)=true:=by rw[h,k];rfl
theorem Q2:(Rows.viewDocsRow.wf (OpenSpec.ofChange Rows.viewDocsSpec))=true:=by kernel_rfl
theorem Q3:(laidOutB Tryz.checked.prog)=true:=by kernel_rfl
theorem Q4:(mapsRowed Tryz.checked.prog)=true:=by kernel_rfl
theorem Q5:(Tryz.f5.params.all (Tryz.checked.prog.readableRec ·))=true:=by kernel_rfl
theorem Q6:(namedTie Tryz.checked.prog Rows.viewDocsRow.named Rows.viewDocsSpec.vars)=true:=by kernel_rfl
theorem Q7:((Rows.viewDocsRow.stops==[]))=true:=by kernel_rfl
theorem Q8:((Tryz.checked.prog.stops==[]))=true:=by kernel_rfl
theorem Q9:((Rows.viewDocsRow.knobs==[]))=true:=by kernel_rfl
theorem Ra:((Tryz.checked.prog.stopKnobs==[]))=true:=by kernel_rfl
theorem Rb:((Rows.viewDocsRow.inPlace==Tryz.checked.prog.inPlace 5))=true:=by kernel_rfl
theorem Om:((Rows.viewDocsRow.unfollowed==Tryz.checked.prog.unfollowed 5))=true:=by kernel_rfl
theorem On:((Rows.viewDocsRow.recurses==Tryz.checked.prog.recurses 5))=true:=by kernel_rfl
theorem Oo:((Rows.viewDocsRow.named==Tryz.checked.prog.varsNamed 5))=true:=by kernel_rfl
theorem Oq:((Rows.viewDocsRow.maps==(Tryz.f5.params.toList++Rows.viewDocsSpec.plain.varTypes Tryz.checked.prog).any (Tryz.checked.prog.mapsRec ·)))=true:=by kernel_rfl
theorem Ot:((Rows.viewDocsRow.ifaces==(Tryz.f5.params.toList++Rows.viewDocsSpec.plain.varTypes Tryz.checked.prog).any (Tryz.checked.prog.ifacesRec ·)))=true:=by kernel_rfl
theorem Ou:((Rows.viewDocsRow.mapsOut==Tryz.checked.prog.mapsAmong Tryz.f5.resultTypes.toList))=true:=by kernel_rfl
theorem Ov:((Rows.viewDocsRow.loops==(Tryz.f5.params.toList++Rows.viewDocsSpec.plain.varTypes Tryz.checked.prog).any (Tryz.checked.prog.loopsFrom ·)))=true:=by kernel_rfl
theorem Ow:((Rows.viewDocsRow.wideKeys==(Tryz.f5.params.toList++Rows.viewDocsSpec.plain.varTypes Tryz.checked.prog++Tryz.f5.resultTypes.toList).any (Tryz.checked.prog.wideKeysFrom ·)))=true:=by kernel_rfl
theorem Ox:(Rows.viewDocsSpec.vars.all (Tryz.checked.prog.varReadable ·))=true:=by kernel_rfl
theorem Oy:(Tryz.f5.resultTypes.all (fun t=>Tryz.checked.prog.readableRec t&&decide (t<Tryz.checked.prog.types.size)))=true:=by kernel_rfl
theorem Oz:((Rows.viewDocsRow.ifacesOut==Tryz.f5.resultTypes.toList.any (Tryz.checked.prog.ifacesRec ·)))=true:=by kernel_rfl
theorem OA:((Rows.viewDocsRow.loopsOut==Tryz.f5.resultTypes.toList.any (Tryz.checked.prog.loopsFrom ·)))=true:=by kernel_rfl
theorem OB:((Rows.viewDocsRow.plainKeys==Tryz.checked.prog.plainKeys))=true:=by kernel_rfl
theorem OC:(Rows.viewDocsRow.shortTexts.isNone)=true:=by kernel_rfl
theorem OD:(Tryz.checked.prog.stopsHeard)=true:=by kernel_rfl
theorem OE:(Tryz.checked.prog.mayEnter)=true:=by kernel_rfl
theorem OF:((Rows.viewDocsRow.lifted==Tryz.checked.prog.liftsFinal))=true:=by kernel_rfl
theorem OG:((Tryz.checked.prog.make==some Rows.viewDocsRow.make))=true:=by kernel_rfl
theorem OH:((Rows.viewDocsRow.kinds==(if Rows.viewDocsRow.domain.isEmpty then[]else Tryz.f5.params.toList.map fun t=>match Tryz.checked.prog.underlying t with|some (.int k)=>some k|_=>none)))=true:=by kernel_rfl
theorem OI:((Rows.viewDocsRow.pinned==Rows.viewDocsRow.pinnedBy))=true:=by kernel_rfl
theorem OJ:((Rows.viewDocsRow.veiled==(Tryz.f5.params.toList++Rows.viewDocsSpec.plain.varTypes Tryz.checked.prog++Tryz.f5.resultTypes.toList).any (Tryz.checked.prog.veiledRec ·)))=true:=by kernel_rfl
theorem OK:(Rows.viewDocsRow.veiledFits Tryz.checked.prog Tryz.f5.params.toList (Tryz.f5.params.toList++Rows.viewDocsSpec.plain.varTypes Tryz.checked.prog++Tryz.f5.resultTypes.toList))=true:=by kernel_rfl
set_option maxRecDepth 100000 in
theorem Fc:joinedFacts Tryz.checked.prog 5 Tryz.f5 Rows.viewDocsSpec Rows.viewDocsRow=true:=(fR (fR (fR (fR (fR (fR (fR (fR (fR (fR (fR (fR (fR (fR (fR (fR (fR (fR (fR (fR (fR (fR (fR (fR (fR (fR (fR (fR (fR (fR (fR Q2 Q3) Q4) Q5) Q6) Q7) Q8) Q9) Ra) Rb) Om) On) Oo) Oq) Ot) Ou) Ov) Ow) Ox) Oy) Oz) OA) OB) OC) OD) OE) OF) OG) OH) OI) OJ) OK)
theorem viewDocs_holds:Rows.ViewDocsSaid:=
 OpenClaim.holds_of_wide 5 Tryz.f5 rfl rfl rfl rfl rfl rfl rfl ⟨rfl,rfl,rfl,rfl,rfl⟩ rfl rfl rfl rfl rfl (by kernel_rfl) Tryz.func5 Fc
  (of_decide_eq_true (by kernel_rfl)) (by unfold Func.isWrapper;first|(rw[if_pos (by decide+kernel)];kernel_rfl)|(rw[if_neg (by decide+kernel)];exact⟨rfl,rfl⟩))
  (fun os started H enc _=>Fe os started H enc)
end Go.Proofs.YtkeagffgdajggaaGreat
end
