/- A part. -/
import Derived.Test.YtgecakgfnjkkbaaGreatRt27
import Derived.OpenShut
import Derived.ChangeCalls
set_option linter.defProp false
set_option linter.unusedSimpArgs false
set_option linter.unusedVariables false
section
set_option maxRecDepth 4000
namespace Go.AB
open Go
attribute[-go_sem] Nat.add_zero mi cy
def Bo(m:J7)(p:Nat):Option UInt8:=(m ((p/4096:Nat):Int)).bind fun l=>l[p % 4096]?
def MJ(m:J7):Prop:=∀k l,m k=some l->l.length=4096
theorem Vc{c x:List UInt8}{o i:Nat}(h:o+x.length<=c.length):(oq c o x)[i]? =if o<=i/\i<o+x.length then x[i -o]? else c[i]? :=by
 unfold oq
 have ht:(c.take o).length=o:=A_
 by_cases h1:i<o
 ·rw[if_neg AT,List.append_assoc,List.getElem?_append_left AT,List.getElem?_take_of_lt h1]
 ·by_cases h2:i<o+x.length
  ·rw[if_pos AT,List.append_assoc,List.getElem?_append_right AT,ht,List.getElem?_append_left AT]
  ·rw[if_neg AT,List.getElem?_append_right A_,List.length_append,List.getElem?_drop]
   congr 1;omega
theorem OS{m:J7}{k p:Nat}{l:List UInt8}:Bo (pR m (k:Int) l) p=if p/4096=k then l[p % 4096]? else Bo m p:=by
 unfold Bo pR
 by_cases h:p/4096=k
 ·rw[if_pos AT,if_pos h];rfl
 ·rw[if_neg AT,if_neg h]
theorem tm4(a:Nat):((a:Int).tmod 4096).toNat=a % 4096:=D_
theorem td4{a:Nat}(h:a<4611686018427387904):aC ((a:Int).tdiv 4096)=((a/4096:Nat):Int):=by grind [Int.tdiv_eq_ediv_of_nonneg,ao]
def Wu{m:J7}(hm:MJ m)(a0:Nat)(l0:List UInt8)(hb:a0+l0.length<=2147483647):
 ∃m',iter ER ((a0:Int),l0,m)=some m'/\MJ m'/\(∀p,a0<=p->p<a0+l0.length->Bo m' p=l0[p -a0]?)/\∀p x,¬(a0<=p/\p<a0+l0.length)->Bo m p=some x->Bo m' p=some x:=by
 refine eh (fun st:Int×List UInt8×J7=>∃a:Nat,st.1=a/\a0<=a/\a<=a0+l0.length/\st.2.1=l0.drop (a -a0)/\MJ st.2.2/\(∀p,a0<=p->p<a->Bo st.2.2 p=l0[p -a0]?)/\∀p x,¬(a0<=p/\p<a)->Bo m p=some x->Bo st.2.2 p=some x)
  (fun st=>st.2.1.length) _ ⟨a0,rfl,Nat.le_refl _,AT,BY,hm,fun p h1 h2=>AT,fun p x _ h=>h⟩ (by show l0.length<_;omega) ?_
 rintro⟨a,l,M⟩ ⟨a,rfl,h1,h2,rfl,hM,h3,h4⟩
 have hl:(l0.drop (a -a0)).length=l0.length -(a -a0):=List.length_drop
 unfold ER
 by_cases hc:0<(l0.drop (a -a0)).length
 ·dsimp only
  rw[if_pos I_]
  refine⟨_,rfl,?_⟩
  rw[tm4,td4 AT]
  have hn:min (l0.drop (a -a0)).length (4096 -a % 4096)=min (l0.length -(a -a0)) (4096 -a % 4096):=by rw[hl]
  generalize hN:min (l0.drop (a -a0)).length (4096 -a % 4096)=n at hn
  have amE:a % 4096<4096:=Nat.mod_lt _ B_
  rw[ao AT AT]
  generalize hc0:(M ((a/4096:Nat):Int)).getD Wx=c
  have hcl:c.length=4096:=by
   subst hc0
   cases e:M ((a/4096:Nat):Int)with
   |none=>exact List.length_replicate ..
   |some l=>exact hM _ _ e
  have htl:((l0.drop (a -a0)).take n).length=n:=M_
  have akd:∀p x,p/4096=a/4096->Bo M p=some x->c[p % 4096]? =some x:=fun p x e hp=>by
   unfold Bo at hp
   rw[e]at hp
   subst hc0
   cases e2:M ((a/4096:Nat):Int)with
   |none=>rw[e2]at hp;cases hp
   |some l=>rw[e2]at hp;exact hp
  have hov:∀p,p/4096=a/4096->(oq c (a % 4096) ((l0.drop (a -a0)).take n))[p % 4096]? =if a<=p/\p<a+n then l0[p -a0]? else c[p % 4096]? :=fun p e=>by
   rw[Vc AT,htl]
   by_cases hp:a<=p/\p<a+n
   ·rw[if_pos AT,if_pos hp,List.getElem?_take_of_lt AT,List.getElem?_drop]
    congr 1;omega
   ·rw[if_neg AT,if_neg hp]
  refine⟨⟨a+n,AT,AT,AT,?_,?_,fun p q1 q2=>?_,fun p x q1 q2=>?_⟩,?_⟩
  ·grind [List.drop,List.drop_drop]
  ·intro k l hk
   have hk':(if k=((a/4096:Nat):Int)then some (oq c (a % 4096) ((l0.drop (a -a0)).take n))else M k)=some l:=hk
   split at hk'
   ·grind [oq,List.length_append,List.length_drop,List.length_take]
   ·exact hM k l hk'
  ·show Bo (pR M _ _) p=_
   rw[OS]
   by_cases e:p/4096=a/4096
   ·rw[if_pos e,hov p e]
    by_cases hp:a<=p/\p<a+n
    ·rw[if_pos hp]
    ·rw[if_neg hp]
     grind [q1,List.getElem?_eq_getElem]
   ·rw[if_neg e]
    grind [q1]
  ·show Bo (pR M _ _) p=_
   rw[OS]
   have h5:=h4 p x AT q2
   by_cases e:p/4096=a/4096
   ·rw[if_pos e,hov p e,if_neg AT]
    exact akd p x e h5
   ·rw[if_neg e];exact h5
  grind [List.drop,List.length_drop]
 ·dsimp only
  rw[if_neg I_]
  have e:a=a0+l0.length:=AT
  subst e
  exact⟨_,rfl,hM,h3,h4⟩
def YR{M:J7}(hM:MJ M){b:List UInt8}(a n:Nat)(hb:a+n<=b.length)(hl:b.length<=2147483647)(h:∀p,a<=p->p<a+n->Bo M p=b[p]?):
 iter (Ma M (a:Int) (n:Int)) []=some ((b.drop a).take n):=by
 refine iter_eq (fun out=>∃j,j<=n/\out=(b.drop a).take j) (fun out=>n -out.length) ⟨0,Nat.zero_le _,BY⟩ AT ?_
 rintro _ ⟨j,hj,rfl⟩
 have hlen:((b.drop a).take j).length=j:=Xa3
 unfold Ma
 rw[hlen]
 by_cases hc:j<n
 ·left
  rw[if_pos I_]
  have e1:aC ((a:Int)+(j:Int))=((a+j:Nat):Int):=E_
  rw[e1,tm4,td4 AT]
  have hq:=h (a+j) AT AT
  rw[List.getElem?_eq_getElem AT]at hq
  unfold Bo at hq
  cases e:M (((a+j)/4096:Nat):Int)with
  |none=>rw[e]at hq;cases hq
  |some sG=>
   have hbl:=hM _ _ e
   refine⟨_,ay rfl rfl,⟨j+min (4096 -(a+j)% 4096) (n -j),AT,?_⟩,?_⟩
   ·rw[show((n:Int) -(j:Int)).toNat=n -j by omega]
    rw[List.take_add,List.drop_drop]
    congr 1
    refine List.ext_getElem? fun i=>?_
    by_cases hi:i<min (4096 -(a+j)% 4096) (n -j)
    ·rw[List.getElem?_take_of_lt hi,List.getElem?_take_of_lt hi,List.getElem?_drop,List.getElem?_drop]
     have h5:=h (a+j+i) AT AT
     unfold Bo at h5
     rw[show(a+j+i)/4096=(a+j)/4096 by omega,e]at h5
     rw[<-h5]
     congr 1;omega
    grind [List.getElem?_take_eq_none]
   grind [List.take,min,List.length_append,List.length_take,List.length_drop]
 ·right
  rw[if_neg I_]
  have:j=n:=AT
  subst this;rfl
structure GB(b:List UInt8)(n:Nat)(g:iS):Prop where
 c8:g.total=b.length
 form:Form g.known
 le:∀y∈g.known,y.To<=b.length
 len:g.known.length<=n
 ok:MJ g.sG
 by_:∀p:Nat,dH p g.known->Bo g.sG p=b[p]?
def TI(b:List UInt8):GB b 0 ⟨b.length,[],fun _=>none⟩:=⟨rfl,⟨fun _ h=>absurd h List.not_mem_nil,List.Pairwise.nil⟩,fun _ h=>absurd h List.not_mem_nil,Nat.le_refl _,fun k l h=>A_,fun p⟨_,h,_⟩=>absurd h List.not_mem_nil⟩
def TJ{b:List UInt8}{n:Nat}{g:iS}(h:GB b n g)(hn:n+2<=100000000)(hb:b.length<=2147483647)(a:Nat)(l:List UInt8)(hl:a+l.length<=b.length)(he:∀i,i<l.length->l[i]? =b[a+i]?):
 ∃g',kO g a l=some (g',0)/\GB b (n+1) g'/\∀p,dH p g'.known↔dH p g.known\/((a:Int)<=p/\p<a+l.length):=by
 obtain⟨c8,form,le,len,ok,by_⟩:=h
 have hw:aC ((a:Int)+(l.length:Int))=(a:Int)+l.length:=ao AT AT
 have hw2:aC (g.total -(a:Int))=(b.length:Int) -a:=by rw[c8];exact ao AT AT
 obtain⟨ms,m1,m2,m3,m4,m5⟩:=Mm (x:=⟨a,(a:Int)+l.length⟩) form AT
 obtain⟨kn,k1,k2,k3,k4,k5⟩:=Y4 (x:=⟨a,(a:Int)+l.length⟩) form (fun y hy=>by have:=le y hy;omega) (by show(a:Int)+l.length<=_;omega) AT
 have hin:∀y∈ms,(a:Int)<=y.aP/\y.aP<y.To/\y.To<=a+l.length:=fun y hy=>by
  have h1:=m2.1 y hy
  have h2:=((m5 y.aP).1 ⟨y,hy,Int.le_refl _,h1.2⟩).2.1
  exact⟨h2.1,h1.2,m4 y hy⟩
 have hms:ms.length<4611686018427387904:=AT
 obtain⟨m',w1,w2,w3,w4⟩:=eh (body:=YE a l ms) (s0:=(0,g.sG))
  (fun q=>∃k:Nat,q.1=k/\k<=ms.length/\MJ q.2/\(∀p:Nat,dH p (ms.take k)->Bo q.2 p=b[p]?)/\∀p:Nat,dH p g.known->Bo q.2 p=b[p]?)
  (fun q=>ms.length -q.1.toNat) (fun m'=>MJ m'/\(∀p:Nat,dH p ms->Bo m' p=b[p]?)/\∀p:Nat,dH p g.known->Bo m' p=b[p]?)
  ⟨0,rfl,Nat.zero_le _,ok,fun p⟨_,h,_⟩=>Xb5,by_⟩ (by show ms.length -_<_;omega) (by
    rintro⟨k,M⟩ ⟨k,rfl,hk,q1,q2,q3⟩
    dsimp only at q1 q2 q3
    unfold YE
    dsimp only
    by_cases hc:k<ms.length
    ·rw[if_pos I_]
     have hix:ix ms (k:Int)=ms[k]:=gh hc
     rw[hix]
     obtain⟨r1,r2,r3⟩:=hin ms[k] (List.getElem_mem _)
     generalize hy:ms[k]=y at r1 r2 r3
     obtain⟨F,hF⟩:∃F:Nat,y.aP=F:=⟨y.aP.toNat,AT⟩
     have hpl:(part l (y.aP -a) (y.To -a)).length=(y.To -y.aP).toNat:=by
      unfold part
      rw[List.length_take,List.length_drop];omega
     have hpe:∀i,i<(y.To -y.aP).toNat->(part l (y.aP -a) (y.To -a))[i]? =b[F+i]? :=fun i hi=>by
      unfold part
      rw[List.getElem?_take_of_lt AT,List.getElem?_drop,he _ AT]
      congr 1;omega
     obtain⟨M',v1,v2,v3,v4⟩:=Wu q1 F (part l (y.aP -a) (y.To -a)) (by rw[hpl];omega)
     rw[hpl]at v3 v4
     have hbk:∀p:Nat,p<b.length->b[p]? =some (b[p]?.getD 0):=fun p hp=>by rw[List.getElem?_eq_getElem hp];rfl
     refine⟨_,ay ⟨AT,AT,r1,AT,r3⟩ (ah (by rw[hF];rw[hF]at v1;exact v1) rfl),⟨k+1,ao AT AT,hc,v2,fun p hp=>?_,fun p hp=>?_⟩,?_⟩
     ·by_cases hq:F<=p/\p<F+(y.To -y.aP).toNat
      ·show Bo M' p=_
       rw[v3 p hq.1 hq.2,hpe _ AT]
       congr 1;omega
      ·have hp':dH p (ms.take k):=by
        rcases(Mv hc).1 hp with h|h
        ·exact h
        ·rw[hy]at h;exact absurd ⟨by have:=h.1;omega,by have:=h.2;omega⟩ hq
       have hpb:p<b.length:=by
        obtain⟨x,hx,hx2⟩:=hp'
        have:=(hin x (List.mem_of_mem_take hx)).2.2
        have:=hx2.2;omega
       grind [Bo,q2]
     ·by_cases hq:F<=p/\p<F+(y.To -y.aP).toNat
      ·show Bo M' p=_
       rw[v3 p hq.1 hq.2,hpe _ AT]
       congr 1;omega
      ·have hpb:p<b.length:=by
        obtain⟨x,hx,hx2⟩:=hp
        have:=le x hx
        have:=hx2.2;omega
       grind [Bo]
     grind [aC,ao]
    ·rw[if_neg I_]
     have:k=ms.length:=AT
     subst this
     exact⟨_,rfl,q1,fun p hp=>q2 p (by rwa[List.take_length]),q3⟩)
 have hsv:∀p:Int,(RO ⟨a,(a:Int)+l.length⟩=true/\su p ⟨a,(a:Int)+l.length⟩)↔((a:Int)<=p/\p<a+l.length):=fun p=>by
  unfold RO su
  simp
  omega
 refine⟨⟨g.total,kn,m'⟩,?_,⟨c8,k2,fun y hy=>?_,by show kn.length<=n+1;omega,w2,fun p hp=>?_⟩,fun p=>(k5 p).trans (or_congr Iff.rfl (hsv p))⟩
 ·unfold kO
  rw[if_neg (by rw[c8];simp;omega),hw2,if_neg C_,hw,m1,aL,w1,aL,k1,aL]
 ·have h1:=k2.1 y hy
  rcases(k5 (y.To -1)).1 ⟨y,hy,AT,AT⟩with⟨x,hx,hx2⟩|h
  ·have:=le x hx
   have:=hx2.2;omega
  ·have:=((hsv _).1 h).2;omega
 grind [dH,absurd]
def Xt{b:List UInt8}{n:Nat}{g:iS}(h:GB b n g)(hn:n<=100000000)(hb:b.length<=2147483647)(a most:Nat)(ha:a<=b.length)(hm:most<=2147483647):
 ∃u:Nat,lD g.known a=some (u:Int)/\a<=u/\u<=b.length/\¬dH u g.known/\(∀p:Int,a<=p->p<u->dH p g.known)/\jy g a most=some ((b.drop a).take (min most (u -a)),decide (a+min most (u -a)=b.length)):=by
 obtain⟨c8,form,le,len,ok,by_⟩:=h
 obtain⟨r,u1,u2,u3,u4⟩:=Mn (a:=(a:Int)) form AT
 obtain⟨u,rfl⟩:∃u:Nat,r=u:=⟨r.toNat,AT⟩
 have hu:u<=b.length:=by
  by_cases e:u=a
  ·omega
  ·obtain⟨x,hx,hx2⟩:=u3 ((u:Int) -1) AT AT
   have:=le x hx
   have:=hx2.2;omega
 refine⟨u,u1,AT,hu,u4,u3,?_⟩
 unfold jy
 have e1:min (most:Int) ((u:Int) -a)=((min most (u -a):Nat):Int):=AT
 have hr:=YR ok (b:=b) a (min most (u -a)) AT hb (fun p h1 h2=>by_ p (u3 p AT AT))
 rw[if_neg (by rw[c8];simp;omega),u1,aL,bI (by rw[c8];omega),e1,hr,aL,ao AT AT,c8]
 congr 2
 rw[Bool.eq_iff_iff]
 simp
 omega
def Xq(t:dn)(n:Int)(hl:t.da.length<=40):∃p,oT t n=some p/\(p.2=true->0<=p.1):=by
 by_cases h:n<1\/n>t.da.length
 ·have hc:((decide (n<1))||(decide (n>t.da.length)))=true:=A_
  refine⟨(0,false),ay (fun h2=>A_) ?_,fun h=>BY⟩
  rw[if_pos A_]
 ·have hw:aC (n -1)=n -1:=ao AT AT
  by_cases h0:ix t.da (aC (n -1))<0
  ·refine⟨(0,false),ay (fun _=>AT) ?_,fun h=>BY⟩
   rw[if_pos A_]
  ·refine⟨(ix t.da (aC (n -1)),true),ay (fun _=>AT) ?_,fun _=>AT⟩
   rw[if_neg A_]
   exact ay AT rfl
open Fq
theorem EZ.refl(c:List UInt8):EZ c c:=⟨Nat.le_refl _,fun _ _ h=>h⟩
def YD{b:List UInt8}{a k k':Nat}(h:k<=k'):EZ ((b.drop a).take k) ((b.drop a).take k'):=by
 refine⟨A_,fun j x hx=>?_⟩
 grind [List.getElem?_eq_some_iff,List.length_take,List.getElem?_take_of_lt]
def yE(y:Int×aA×Int×Int)(u:Nat):Int×aA×Int×Int:=if y.2.2.2=6 then(0,y.2.1,u,6)else if y.2.2.2=0 then(y.1,y.2.1,0,0)else(0,y.2.1,0,18)
def wq{b:List UInt8}{n:Nat}{g:iS}(h:GB b n g)(hn:n<=100000000)(hb:b.length<=1500){a:Nat}(ha:a<b.length):
 ∃(u:Nat)(y:Int×aA×Int×Int),a<=u/\u<=b.length/\¬dH u g.known/\(∀p:Int,a<=p->p<u->dH p g.known)/\eV ((b.drop a).take (u -a)) 0 (decide (u=b.length))=some y/\Wd 67 y.2.1.V/\(u=b.length->y.2.2.2≠6)/\kT g a=some (yE y u):=by
 obtain⟨u,u1,u2,u3,u4,u5,u6⟩:=Xt h hn AT a 4096 AT AT
 have hm:min 4096 (u -a)=u -a:=AT
 rw[hm]at u6
 have hlen:((b.drop a).take (u -a)).length=u -a:=A_
 have acb:decide (a+(u -a)=b.length)=decide (u=b.length):=A_
 rw[acb]at u6
 obtain⟨y,y1,y2,y3⟩:∃y,eV ((b.drop a).take (u -a)) 0 (decide (u=b.length))=some y/\Wd 67 y.2.1.V/\(u=b.length->y.2.2.2≠6):=by
  by_cases hu:u=b.length
  ·grind [Nu,decide_eq_true]
  ·obtain⟨y,y1,y2,_⟩:=GJ (l:=true) (by rw[hlen];omega) (EZ.refl _)
   grind [decide_eq_false,absurd]
 refine⟨u,y,u2,u3,u4,u5,y1,y2,y3,?_⟩
 have akn:max 0 (a:Int)=(a:Int):=AT
 have akF:min g.total (u:Int)=(u:Int):=by rw[h.c8];omega
 have step:Jj g a 4096=some (.inr (yE y u)):=by
  unfold Jj yE
  have u6':jy g (a:Int) 4096=some ((b.drop a).take (u -a),decide (u=b.length)):=u6
  rw[u6',aL]
  dsimp only
  rw[y1,aL,hlen]
  by_cases h6:y.2.2.2=6
  ·have hne:(((u -a:Nat):Int)==4096)=false:=C_
   rw[if_neg (by rw[hne];simp),if_pos Xb7,akn,u1,aL,akF,if_pos h6,h6]
  ·rw[if_neg (by simp[h6]),if_neg Xb7,if_neg h6]
   by_cases h0:y.2.2.2=0
   ·rw[if_neg (by simp[h0]),if_pos h0,h0]
   ·rw[if_pos Li,if_neg h0]
 refine iter_eq (fun s=>s=4096) (fun _=>0) rfl B_ ?_
 rintro s rfl
 exact .inr step
def Rt{b:List UInt8}{n m:Nat}{g w:iS}(hg:GB b n g)(hw:GB b m w)(ee:∀p:Nat,p<b.length->dH p w.known)(hn:n<=100000000)(hm:m<=100000000)(hb:b.length<=1500){a:Nat}(ha:a<b.length):
 ∃r r',kT g a=some r/\kT w a=some r'/\Wd 67 r.2.1.V/\(r.2.2.2=6->∃u:Nat,r.2.2.1=u/\u<b.length/\¬dH u g.known)/\(r.2.2.2≠6->r'=r/\r.2.2.1=0):=by
 obtain⟨u,y,u1,u2,u3,u4,y1,y2,y3,p1⟩:=wq hg hn hb ha
 obtain⟨u',y',v1,v2,v3,v4,z1,z2,z3,p2⟩:=wq hw hm hb ha
 have hu':u'=b.length:=A_
 subst hu'
 refine⟨_,_,p1,p2,?_,fun h6=>?_,fun h6=>?_⟩
 ·grind [yE]
 ·have hy:y.2.2.2=6:=by
   unfold yE at h6
   split at h6
   ·assumption
   ·split at h6
    ·cases h6
    ·cases h6
  refine⟨u,by unfold yE;rw[if_pos hy],?_,u3⟩
  omega
 ·have hy:y.2.2.2≠6:=fun h=>h6 (by unfold yE;rw[if_pos h])
  have e:y'=y:=by
   by_cases hu:u=b.length
   ·grind [Option.some.inj]
   ·have hl:((b.drop a).take (b.length -a)).length<1048576:=A_
    obtain⟨q,q1,_,q2⟩:=GJ (l:=true) hl (YD (b:=b) (a:=a) (show u -a<=b.length -a by omega))
    grind [Option.some.inj,q2]
  subst e
  refine⟨by unfold yE;rw[if_neg hy,if_neg hy],?_⟩
  unfold yE
  rw[if_neg hy]
  split<;>rfl
def Xv{b:List UInt8}{n m:Nat}{g w:iS}(hg:GB b n g)(hw:GB b m w)(ee:∀p:Nat,p<b.length->dH p w.known)(hn:n<=100000000)(hm:m<=100000000)(hb:b.length<=1500)(t:dn)(k:Int)(ht:t.da.length<=40):
 ∃r r',mf g t k=some r/\mf w t k=some r'/\Wd 67 r.1.V/\(r.2.2=6->r.1=wC/\∃u:Nat,r.2.1=u/\u<b.length/\¬dH u g.known)/\(r.2.2≠6->r'=r/\r.2.1=0):=by
 obtain⟨p,p1,p2⟩:=Xq t k ht
 have hz:Wd 67 wC.V:=Wd.leaf rfl (fun h=>F_)
 cases h2:p.2 with
 |false=>exact⟨_,_,ah p1 (by rw[h2];rfl),ah p1 A_,hz,fun h=>F_,fun _=>⟨rfl,rfl⟩⟩
 |true=>
  obtain⟨a,ha⟩:∃a:Nat,p.1=a:=⟨p.1.toNat,A_⟩
  by_cases hlt:a<b.length
  ·obtain⟨r,r',q1,q2,q3,q4,q5⟩:=Rt hg hw ee hn hm hb hlt
   have un:∀{g:iS}{r:Int×aA×Int×Int},g.total=b.length->kT g a=some r->mf g t k=some (if(r.2.2.2 !=0)=true then(wC,r.2.2.1,r.2.2.2)else if(r.1 !=k)=true then(wC,0,18)else(r.2.1,0,0)):=fun ht hr=>by
    refine ah p1 ?_
    rw[h2,ha,if_neg B_,if_neg A_,hr,aL]
    split
    ·rfl
    ·split<;>rfl
   refine⟨_,_,un hg.c8 q1,un hw.c8 q2,?_,fun h6=>?_,fun h6=>?_⟩
   ·split
    ·exact hz
    ·split
     ·exact hz
     ·exact q3
   ·split at h6
    ·rename_i h0
     rw[if_pos h0]
     exact⟨rfl,q4 h6⟩
    ·split at h6<;>cases h6
   ·by_cases h0:(r.2.2.2 !=0)=true
    ·rw[if_pos h0]at h6
     obtain⟨e,e2⟩:=q5 h6
     subst e
     refine⟨rfl,?_⟩
     rw[if_pos h0];exact e2
    ·have h00:=Li
     obtain⟨e,e2⟩:=q5 AT
     subst e
     refine⟨rfl,?_⟩
     rw[if_neg h0]
     split<;>rfl
  ·have un:∀{g:iS},g.total=b.length->mf g t k=some (wC,0,18):=fun ht=>by
    refine ah p1 ?_
    rw[h2,if_neg B_,if_pos A_]
   exact⟨_,_,un hg.c8,un hw.c8,hz,fun h=>F_,fun _=>⟨rfl,rfl⟩⟩
def Kv:∀(n:Nat)(v:aa)(fuel:Nat),Wd n v->n<=fuel->eK fuel v v=some 0
 |0,_,_,h,_=>h.elim
 |n+1,v,0,_,h=>by omega
 |n+1,v,fuel+1,h,hf=>by
  obtain⟨h1,h2,_⟩:=h
  have b0:Op.bytesLess v.S.b v.S.b=false:=E1 _
  have lp:iter (fun(k4:Int)=>
   if(decide (k4<v.L.length))&&(decide (k4<v.L.length))then
    a8 (0<=k4/\k4<v.L.length)<|
    a8 (0<=k4/\k4<v.L.length)<|
    aZ (eK fuel (ix v.L k4) (ix v.L k4)) fun r8=>
    if r8 !=0 then
     some (.inr (.inr r8))
    else
     some (.inl (aC (k4+1)))
   else
    some (.inr (.inl ():Unit⊕Int))) 0=some (.inl ()):=by
   refine kA v.L.length AT (fun k hk=>?_) (an BY rfl)
   have hx:=gh hk
   exact aM A_ (ay ⟨BY,AT⟩ (ay ⟨BY,AT⟩ (ah (by rw[hx];exact Kv n _ fuel (h2 _ (List.getElem_mem hk)) AT) (an BY rfl))))
  refine an A_ (an BY (dm (mN lp rfl) ?_))
  exact an BY (an BY rfl)
def RG{v:aa}(h:Wd 67 v):pD v v=some true:=by
 have hb:67<=Bp:=B_
 exact ah (Kv 67 v Bp h hb) rfl
def Mk(o:aA)(h:Wd 67 o.V):mG o o=some true:=by exact ah (RG h) BY
end Go.AB
end
section
set_option maxRecDepth 4000
namespace Go.AB
open Go
def Le{α:Type}(G:α->Prop)(o o':Option α):Prop:=∀x,o=some x->G x->o'=some x
theorem Le.same{α:Type}{G:α->Prop}{o:Option α}:Le G o o:=fun _ h _=>h
theorem Le.aZ{α β:Type}{G:β->Prop}(H:α->Prop){o o':Option α}{F F':α->Option β}(h:Le H o o')(k:∀x,H x->Le G (F x) (F' x))(n:∀x z,¬H x->F x=some z->¬G z):Le G (aZ o F) (aZ o' F'):=by
 intro z hz gz
 cases e:o with
 |none=>rw[e]at hz;cases hz
 |some x=>
  rw[e]at hz
  by_cases hx:H x
  ·rw[h x e hx];exact k x hx z hz gz
  ·exact absurd gz (n x z hx hz)
def Le.all{α β:Type}{G:β->Prop}{o o':Option α}{F F':α->Option β}(h:Le (fun _=>True) o o')(k:∀x,Le G (F x) (F' x)):Le G (Go.AB.aZ o F) (Go.AB.aZ o' F'):=h.aZ _ (fun x _=>k x) fun _ _ h=>absurd trivial h
def Le.afR{X Y β:Type}{G:β->Prop}(H:X⊕Y->Prop){o o':Option (X⊕Y)}{A A':X->Option β}{B B':Y->Option β}(h:Le H o o')(a:∀x,H (.inl x)->Le G (A x) (A' x))(b:∀y,H (.inr y)->Le G (B y) (B' y))(na:∀x z,¬H (.inl x)->A x=some z->¬G z)(nb:∀y z,¬H (.inr y)->B y=some z->¬G z):Le G (nV o A B) (nV o' A' B'):=by
 intro z hz gz
 cases e:o with
 |none=>rw[e]at hz;cases hz
 |some x=>
  rw[e]at hz
  by_cases hx:H x
  ·rw[h x e hx]
   cases x with
   |inl x=>exact a x hx z hz gz
   |inr y=>exact b y hx z hz gz
  ·cases x with
   |inl x=>exact absurd gz (na x z hx hz)
   |inr y=>exact absurd gz (nb y z hx hz)
def Le.jns{X Y β:Type}{G:β->Prop}(H:X⊕Y->Prop){o o':Option (X⊕Y)}{A A':X->Option β}{B B':Y->Option β}(h:Le H o o')(a:∀x,H (.inl x)->Le G (A x) (A' x))(b:∀y,H (.inr y)->Le G (B y) (B' y))(na:∀x z,¬H (.inl x)->A x=some z->¬G z)(nb:∀y z,¬H (.inr y)->B y=some z->¬G z):Le G (zj o A B) (zj o' A' B'):=Le.afR H h a b na nb
theorem Le.a8{α:Type}{G:α->Prop}{c:Prop}[Decidable c]{o o':Option α}(h:Le G o o'):Le G (a8 c o) (a8 c o'):=by grind [Go.AB.a8,Le.same]
def Le.ite{α:Type}{G:α->Prop}{c:Prop}[Decidable c]{a a' b b':Option α}(h:Le G a a')(k:Le G b b'):Le G (if c then a else b) (if c then a' else b'):=A_
theorem Le.iter{S O:Type}(G:O->Prop){body ZU:S->Option (S⊕O)}{s:S}(h:∀s,Le (fun x=>∀o,x=.inr o->G o) (body s) (ZU s)):Le G (iter body s) (iter ZU s):=by
 unfold Go.AB.iter
 generalize 18446744073709551616=n
 induction n generalizing s with
 |zero=>exact Le.same
 |succ n ih=>
  intro o ho go
  unfold cD at ho⊢
  cases e:body s with
  |none=>rw[e]at ho;cases ho
  |some x=>
   rw[e]at ho
   cases x with
   |inl t=>rw[h s _ e (fun o h=>A_)];exact ih o ho go
   |inr p=>injection ho with ho;subst ho;rw[h s _ e (fun o h=>A_)]
def Tot(Bad:Int->Prop)(f:td):Prop:=∀n,∃r,oz f n=some r/\Wd 67 r.1.V/\(r.2.2=6->Bad r.2.1)/\(r.2.2≠6->r.2.1=0)
structure afE(f f':td):Prop where
 root:f'.VH=f.VH
 get:∀n,Le (fun r=>r.2.2≠6) (oz f n) (oz f' n)
def NN{α:Type}[aO α]{v:List α}{i:Int}(h0:0<=i)(h:i<v.length):ix v i∈v:=by
 obtain⟨k,rfl⟩:=Int.eq_ofNat_of_zero_le h0
 grind [gh,List.getElem_mem]
def Gv(n:Nat)(v:aa):Prop:=v.L.length<=n/\(∀x∈v.L,Wd 66 x)/\(v.Kind=8->1<=v.N/\v.N<=4096)
def Ce{n:Nat}{v:aa}(h:Gv n v)(hn:n<=1048577)(k:bg):∃r,e9 v k=some r/\Gv n r:=by
 have hl:=h.1
 have hr:room=140737488355328:=rfl
 obtain⟨i,h1,h2,h3⟩:=Fq.IB v k AT
 refine kS (fun i=>-1<=i/\i<v.L.length) ⟨i,h1,h2,h3⟩ ?_
 rintro i ⟨h2,h3⟩
 by_cases h0:i<0
 ·exact⟨_,aM A_ rfl,h⟩
 ·refine⟨_,an A_ (ay ⟨AT,AT,AT⟩ rfl),?_,fun x hx=>?_,h.2.2⟩
  ·grind [List.length_append,List.length_take,List.length_drop]
  ·rcases List.mem_append.1 hx with hx|hx
   ·exact h.2.1 x (List.mem_of_mem_take hx)
   ·exact h.2.1 x (List.mem_of_mem_drop hx)
def En(Bad:Int->Prop)(w e:Int):Prop:=(e=6->Bad w)/\(e≠6->w=0)
def Rf(S:List Int):Nat->aa->Prop
 |0,_=>False
 |n+1,v=>v.L.length<1048577/\(∀x∈v.L,Rf S n x)/\(v.Kind=8->v.N∈S)
def Rf.up{S T:List Int}(h:∀x∈S,x∈T):∀{n:Nat}{v:aa},Rf S n v->Rf T n v
 |0,_,h=>h
 |_+1,_,r=>⟨r.1,fun x hx=>Rf.up h (r.2.1 x hx),fun k=>h _ (r.2.2 k)⟩
def S4:List Int:=(List.range 4096).map fun(k:Nat)=>(k:Int)+1
theorem ZL{x:Int}(h1:1<=x)(h2:x<=4096):x∈S4:=List.mem_map.2 ⟨(x -1).toNat,List.mem_range.2 AT,AT⟩
theorem MO:S4.length=4096:=by unfold S4;rw[List.length_map,List.length_range]
def Wd.rf:∀{n:Nat}{v:aa},Wd n v->Rf S4 n v
 |0,_,h=>h
 |_+1,_,h=>⟨h.1,fun x hx=>Wd.rf (h.2.1 x hx),fun k=>ZL (h.2.2 k).1 (h.2.2 k).2⟩
theorem Hl{ν:Type}(m:List (Int×ν))(a k:Int)(b:ν):pw (Ad m a b) k=if a=k then some b else pw m k:=by
 induction m with
 |nil=>
  show(bif k==a then some b else none)=_
  by_cases e:a=k
  ·subst e;simp
  ·rw[if_neg e,beq_eq_false_iff_ne.2 fun h=>e h.symm];rfl
 |cons x m ih=>
  obtain⟨c,d⟩:=x
  show pw (bif a==c then(a,b)::m else(c,d)::Ad m a b) k=_
  by_cases e:a=c
  ·subst e
   rw[beq_self_eq_true]
   show(bif k==a then some b else pw m k)=if a=k then some b else(bif k==a then some d else pw m k)
   by_cases e2:a=k
   ·subst e2;simp
   ·rw[if_neg e2,beq_eq_false_iff_ne.2 fun h=>e2 h.symm];rfl
  ·rw[beq_eq_false_iff_ne.2 e]
   show(bif k==c then some d else pw (Ad m a b) k)=if a=k then some b else(bif k==c then some d else pw m k)
   rw[ih]
   by_cases e2:a=k
   ·grind [beq_eq_false_iff_ne]
   ·rw[if_neg e2,if_neg e2]
structure Sn{ν:Type}(S:List Int)(m:List (Int×ν))(l:List Int):Prop where
 has:∀k,(pw m k).isSome=true↔k∈l
 nd:l.Nodup
 sub:∀k∈l,k∈S
theorem Sn.len{ν:Type}{S:List Int}{m:List (Int×ν)}{l:List Int}(h:Sn S m l):l.length<=S.length:=h.nd.length_le_of_subset h.sub
theorem Sn.add{ν:Type}{S:List Int}{m:List (Int×ν)}{l:List Int}(h:Sn S m l){n:Int}(b:ν)(hn:n∈S)(hl:¬n∈l):Sn S (Ad m n b) (l++[n]):=by
 refine⟨fun k=>?_,?_,fun k hk=>?_⟩
 ·rw[Hl,List.mem_append]
  have:=h.has k
  by_cases e:n=k
  ·subst e;simp
  ·grind [id,absurd]
 ·rw[List.nodup_append]
  refine⟨h.nd,List.nodup_cons.2 ⟨BY,List.nodup_nil⟩,fun a ha b hb e=>?_⟩
  grind [List.mem_singleton]
 ·rcases List.mem_append.1 hk with hk|hk
  ·exact h.sub k hk
  grind [List.mem_singleton]
structure Sb(S:List Int)(m:List (Int×Bool))(l:List Int):Prop extends Sn S m l where
 tr:∀k,LJ false m k=(pw m k).isSome
theorem Sb.add{S:List Int}{m:List (Int×Bool)}{l:List Int}(h:Sb S m l){n:Int}(hn:n∈S)(hl:¬n∈l):Sb S (Ad m n true) (l++[n]):=by
 refine⟨h.toSn.add true hn hl,fun k=>?_⟩
 have:=h.tr k
 unfold LJ at this⊢
 rw[Hl]
 by_cases e:n=k
 ·rw[if_pos e];rfl
 ·rw[if_neg e];exact this
def VD{S:List Int}(hS:S.length<=5000){v:aa}{m:List (Int×Bool)}{l:List Int}(h:Sb S m l)(hv:v.Kind=8->v.N∈S):∃r,lW v m l=some r/\r.1=true/\Sb S r.2.1 r.2.2:=by
 have hr:room=140737488355328:=rfl
 have hl:=h.len
 refine Pj (fun q=>Sb S q.1 q.2) ?_ fun q hq=>⟨_,rfl,rfl,hq⟩
 by_cases c:v.Kind=8/\LJ false m v.N=false
 ·have hm:¬v.N∈l:=fun x=>by
   have:=(h.has v.N).2 x
   rw[<-h.tr,c.2]at this;cases this
  exact⟨_,aM A_ (ay A_ rfl),h.add (hv c.1) hm⟩
 ·exact⟨_,an A_ rfl,h⟩
def Qk{S:List Int}(hS:S.length<=5000):∀(n:Nat)(v:aa)(fuel:Nat)(m:List (Int×Bool))(l:List Int),Rf S n v->n<=fuel->Sb S m l->∃r,jR fuel v m l=some r/\r.1=true/\Sb S r.2.1 r.2.2
 |0,_,_,_,_,h,_,_=>h.elim
 |n+1,_,0,_,_,_,h,_=>by omega
 |n+1,v,fuel+1,m,l,h,hf,hs=>by
  obtain⟨hl,hL,h8⟩:=h
  refine kS _ (VD hS hs h8) fun r1⟨w1,w2⟩=>?_
  rw[w1]
  split
  ·rename_i hh;cases hh
  split
  ·exact⟨_,rfl,rfl,w2⟩
  refine rT (jg (fun q=>Sb S q.1 q.2) (fun _=>False)) (Cf (jg (fun q=>Sb S q.1 q.2) (fun _=>False)) (eh (fun q=>0<=q.1/\Sb S q.2.1 q.2.2) (fun q=>((v.L.length:Int) -q.1).toNat) _ ⟨Int.le_refl 0,w2⟩ AT ?_) ?_) ?_
  ·rintro⟨t,m,l⟩ ⟨q1,q2⟩
   dsimp at q1 q2⊢
   by_cases hc:t<v.L.length
   ·rw[if_pos A_,bI ⟨q1,hc⟩]
    obtain⟨r,r1,r2,r3⟩:=Qk hS n (ix v.L t) fuel m l (hL _ (NN q1 hc)) AT q2
    rw[r1,aL,r2,ao AT AT]
    refine⟨_,rfl,⟨A_,r3⟩,?_⟩
    omega
   ·rw[if_neg A_]
    exact⟨_,rfl,q2⟩
  ·rintro(z|z) hz
   ·exact⟨_,rfl,hz⟩
   ·exact False.elim hz
  ·rintro(z|z) hz
   ·exact⟨_,rfl,rfl,hz⟩
   ·exact False.elim hz
def YT{S:List Int}(hS:S.length<=5000){n:Nat}{v:aa}(h:Rf S n v)(hn:n<=400):∃l,pI v=some l/\l.Nodup/\l.length<=5000:=by
 have hb:400<=Bp:=B_
 obtain⟨r,h1,_,h3⟩:=Qk hS n v Bp [] [] h AT ⟨⟨fun k=>Xe2,List.nodup_nil,fun k hk=>A_⟩,fun k=>rfl⟩
 exact⟨_,ah h1 rfl,h3.nd,by have:=h3.len;omega⟩
def Jd{S:List Int}(hS:S.length<=5000){n:Nat}{v:aa}(h:Rf S n v)(hn:n<=400):∃l,fG v=some l/\l.length<=5000/\∀x∈l,1<=x/\x<=4096:=by
 have hr:room=140737488355328:=rfl
 obtain⟨l,h1,h2,h3⟩:=YT hS h hn
 refine⟨_,ah h1 (ay AT rfl),?_,fun x hx=>?_⟩
 ·exact Nat.le_trans (List.length_filter_le ..) h3
 ·have:=(List.mem_filter.1 hx).2
  grind [gone,Bool.not_eq_true',Bool.or_eq_false_iff,decide_eq_false_iff_not]
def Rw(p:Int)(r:cO):Prop:=Sn (p::S4) r.Uj r.l_
theorem Rw.len{p:Int}{r:cO}(h:Rw p r):r.l_.length<=4097:=by
 have:=Sn.len h
 grind [List.length_cons,MO]
def y7{p:Int}{r:cO}(h:Rw p r){l:List Int}(hl:l.length<=5000)(hi:∀x∈l,x=p\/1<=x/\x<=4096):∃r',cN r l=some r'/\Rw p r'/\r.l_.length<=r'.l_.length:=by
 have hr:room=140737488355328:=rfl
 refine eh (fun q=>0<=q.1/\Rw p q.2/\r.l_.length<=q.2.l_.length) (fun q=>((l.length:Int) -q.1).toNat) _ ⟨Int.le_refl 0,h,Nat.le_refl _⟩ A_ ?_
 rintro⟨t,r⟩ ⟨q1,q2,q3⟩
 dsimp at q1 q2 q3⊢
 by_cases hc:t<l.length
 ·rw[if_pos A_,ao AT AT]
  have hx:ix l t∈p::S4:=by
   rcases hi (ix l t) (NN q1 hc)with e|e
   ·rw[e];exact List.mem_cons_self
   ·grind [List.mem_cons_of_mem,ZL]
  have hm:(l.length -(t+1)).toNat<(l.length -t).toNat:=AT
  have hlen:=q2.len
  have hh:=q2.has (ix l t)
  by_cases c:Ri r.Uj (ix l t)=true
  ·exact⟨_,eJ (ay ⟨q1,hc⟩ (an A_ rfl)) rfl,⟨A_,q2,q3⟩,hm⟩
  ·refine⟨_,eJ (ay ⟨q1,hc⟩ (aM A_ (ay A_ rfl))) rfl,⟨AT,Sn.add q2 _ hx fun x=>c (hh.2 x),?_⟩,hm⟩
   grind [ix,List.length_append]
 ·rw[if_neg A_]
  exact⟨_,rfl,q2,q3⟩
def Ty:∀(N fuel:Nat)(v:aa)(m:Int),0<=m->m<=N->N<=400->N<fuel->∃r,j4 fuel v m=some r/\-1<=r/\r<m/\(0<=r->∃S:List Int,S.length<=m -r/\Rf S (N+1) v)
 |_,0,_,_,_,_,_,h=>by omega
 |N,fuel+1,v,m,h0,hm,hN,hf=>by
  refine Pj (fun r=>-1<=r/\r<m/\(0<=r->∃S:List Int,S.length<=m -r/\Rf S (N+1) v)) (eh (fun(q:Int×Int)=>-1<=q.1/\q.1<m/\∃k:Nat,q.2=k/\k<=v.L.length/\k<=m -1 -q.1/\(0<=q.1->∃S:List Int,S.length<=m -1 -q.1/\∀i(hi:i<v.L.length),i<k->Rf S N v.L[i])) (fun q=>(q.1+1).toNat) _ ?_ ?_ ?_) fun r w=>⟨_,rfl,w⟩
  ·rw[ao AT AT]
   exact⟨AT,by show m -1<m;omega,0,rfl,Nat.zero_le _,BY,fun _=>⟨[],BY,fun i _ h=>absurd h (Nat.not_lt_zero _)⟩⟩
  ·grind [ao]
  rintro⟨x,t⟩ ⟨q1,q2,k,q3,q4,q5,q6⟩
  dsimp only at q1 q2 q3 q5 q6⊢
  subst q3
  by_cases c:(k:Int)<v.L.length/\0<=x
  ·obtain⟨c1,c2⟩:=c
   have hk:k<v.L.length:=AT
   obtain⟨S,s1,s2⟩:=q6 c2
   rw[if_pos C_,bI ⟨AT,c1⟩]
   obtain⟨r,r1,r2,r3,r4⟩:=Ty (N -1) fuel (ix v.L (k:Int)) x c2 AT AT AT
   rw[r1,aL,ao AT AT]
   refine⟨_,rfl,⟨r2,by show r<m;omega,k+1,rfl,hk,AT,fun hr=>?_⟩,AT⟩
   obtain⟨T,t1,t2⟩:=r4 hr
   rw[gh hk,show N -1+1=N by omega]at t2
   refine⟨S++T,A_,fun i hi hik=>?_⟩
   by_cases e:i=k
   ·subst e;exact t2.up fun y hy=>List.mem_append_right _ hy
   ·exact(s2 i hi AT).up fun y hy=>List.mem_append_left _ hy
  ·rw[if_neg Xe3]
   refine⟨_,rfl,q1,q2,fun hr=>?_⟩
   obtain⟨S,s1,s2⟩:=q6 hr
   refine⟨v.N::S,A_,AT,fun y hy=>?_,fun _=>List.mem_cons_self⟩
   obtain⟨i,hi,e⟩:=List.mem_iff_getElem.1 hy
   exact e▸(s2 i hi AT).up fun y hy=>List.mem_cons_of_mem _ hy
def Sm(x:gX):∃r,oJ x=some r/\(r=true->∃S:List Int,S.length<=5000/\Rf S 301 x.bp):=by
 have hb:400<=Bp:=B_
 obtain⟨r,r1,r2,r3,r4⟩:=Ty 300 Bp x.bp 300 BY BY BY AT
 refine⟨_,ah r1 rfl,fun h=>?_⟩
 obtain⟨S,s1,s2⟩:=r4 A_
 exact⟨S,AT,s2⟩
def Sp{S:List Int}(hS:S.length<=5000){v g:aa}{n:Nat}(hv:Wd 67 v)(hg:Rf S n g)(hn:n<=400):∃l,iR v g=some l/\l.length<=5000/\∀x∈l,1<=x/\x<=4096:=by
 have h4:S4.length<=5000:=by rw[MO];decide
 refine kS _ (Ce (n:=1048576) ⟨by have:=hv.1;omega,hv.2.1,hv.2.2⟩ BY _) fun r1 w1=>?_
 have hw:Wd 67 r1:=⟨by have:=w1.1;omega,w1.2.1,w1.2.2⟩
 refine kS _ (Jd h4 hw.rf BY) fun r2⟨l2,i2⟩=>?_
 refine kS _ (y7 (p:=1) ⟨fun k=>Xe2,List.nodup_nil,fun k hk=>A_⟩ l2 fun x hx=>.inr (i2 x hx)) fun r3⟨w3,_⟩=>?_
 refine kS _ (Jd hS hg hn) fun r4⟨l4,i4⟩=>?_
 refine kS _ (y7 w3 l4 fun x hx=>.inr (i4 x hx)) fun r5⟨w5,_⟩=>⟨_,rfl,by have:=w5.len;omega,fun x hx=>?_⟩
 rcases List.mem_cons.1 (w5.sub x hx)with e|e
 ·rw[e];decide
 ·obtain⟨k,hk,e⟩:=List.mem_map.1 e
  grind
def abr(Bad:Int->Prop)(z:List Int×List aA×Int×Int):Prop:=En Bad z.2.2.1 z.2.2.2/\(z.2.2.2=6->z.1=[]/\z.2.1=[])/\z.1.length<=4097/\z.2.1.length<=4097/\∀o∈z.2.1,Wd 67 o.V
def ML{Bad:Int->Prop}{f:td}(hf:Tot Bad f){S:List Int}(hS:S.length<=5000){x:jq}{n:Nat}(hx:Rf S n x.bp)(hn:n<=400):∃z,ff f x=some z/\abr Bad z:=by
 have hr:room=140737488355328:=rfl
 have h4:S4.length<=5000:=by rw[MO];decide
 refine kS (fun r=>Rw x.lC r) ?_ fun r1 w1=>?_
 ·obtain⟨r,r1,r2,_⟩:=y7 (r:=cO.mk [] []) ⟨fun k=>Xe2,List.nodup_nil,fun k hk=>(by cases hk)⟩ BY fun y hy=>.inl (List.mem_singleton.1 hy)
  exact⟨r,r1,r2⟩
 refine rT (jg (fun q=>Rw x.lC q.2/\q.1.length<=4097/\∀o∈q.1,Wd 67 o.V) (fun y=>abr Bad (y.1,y.2.1,y.2.2.1,y.2.2.2.1))) (Cf (jg (fun q=>Rw x.lC q.2/\q.1.length<=4097/\∀o∈q.1,Wd 67 o.V) (fun y=>abr Bad (y.1,y.2.1,y.2.2.1,y.2.2.2.1))) (eh (fun q=>Rw x.lC q.2/\q.1.length<=4097/\∀o∈q.1,Wd 67 o.V) (fun q=>4098 -q.1.length) _ ⟨w1,Nat.zero_le _,fun o ho=>absurd ho List.not_mem_nil⟩ BY ?_) ?_) ?_
 ·rintro⟨out,o⟩ ⟨q1,q2,q3⟩
  dsimp only at q1 q2 q3⊢
  have hlen:=q1.len
  by_cases c:(out.length:Int)<(o.l_.length:Int)
  rotate_left
  ·rw[if_neg Xe3];exact⟨_,rfl,q1,q2,q3⟩
  rw[if_pos Xe3,bI ⟨AT,c⟩]
  obtain⟨r,r1,r2,r3,r4⟩:=hf (ix o.l_ (out.length:Int))
  rw[r1,aL]
  by_cases c0:r.2.2=0
  rotate_left
  ·rw[if_pos A_]
   exact⟨_,rfl,⟨r3,r4⟩,fun _=>⟨rfl,rfl⟩,Nat.zero_le _,Nat.zero_le _,fun o ho=>absurd ho List.not_mem_nil⟩
  rw[if_neg A_]
  obtain⟨y,y1,y2⟩:∃y,(if(out.length:Int)==0 then
            aZ (iR r.1.V x.bp) fun r24=>
            aZ (cN o r24) fun r25=>
            some r25
          else
           aZ (fG r.1.V) fun r26=>
           aZ (cN o r26) fun r27=>
           some r27)=some y/\Rw x.lC y:=by
   split
   ·exact kS _ (Sp hS r2 hx hn) fun l⟨l1,l2⟩=>kS _ (y7 q1 l1 fun y hy=>.inr (l2 y hy)) fun z hz=>⟨_,rfl,hz.1⟩
   ·exact kS _ (Jd h4 r2.rf B_) fun l⟨l1,l2⟩=>kS _ (y7 q1 l1 fun y hy=>.inr (l2 y hy)) fun z hz=>⟨_,rfl,hz.1⟩
  refine⟨_,eJ y1 (ay A_ rfl),⟨y2,A_,fun p hp=>?_⟩,A_⟩
  grind [List.mem_singleton]
 ·rintro(z|z) hz
  ·exact⟨_,rfl,hz⟩
  ·exact⟨_,rfl,hz⟩
 ·rintro(z|z) hz
  ·exact⟨_,rfl,⟨fun h=>F_,fun _=>rfl⟩,fun h=>F_,hz.1.len,hz.2.1,hz.2.2⟩
  ·exact⟨_,rfl,hz⟩
def MK{f f':td}(h:afE f f')(x:jq):Le (fun r=>r.2.2.2≠6) (ff f x) (ff f' x):=by
 refine Le.all Le.same fun r1=>Le.jns (jg (fun _=>True) (fun y=>y.2.2.2.1≠6)) (Le.afR (jg (fun _=>True) (fun y=>y.2.2.2.1≠6)) (Le.iter _ ?_) (fun _ _=>Le.same) (fun _ _=>Le.same) (fun _ _ hx=>absurd trivial hx) ?_) (fun _ _=>Le.same) (fun _ _=>Le.same) (fun _ _ hx=>absurd trivial hx) ?_
 ·rintro⟨out,o⟩
  refine Le.ite (Le.a8 (Le.aZ _ (h.get _) (fun _ _=>Le.same) ?_)) Le.same
  intro x z hx hz hg
  have hx:=X5
  rw[if_pos A_]at hz
  injection hz with hz;subst hz;exact hg _ rfl hx
 ·rintro y z hy hz hg
  injection hz with hz;subst hz;exact hy hg
 ·rintro y z hy hz hg
  injection hz with hz;subst hz;exact hy hg
def adK(l:List Int)(hl:l.length<=5000):jN l l=some true:=by
 refine an BY (dm (mN (z:=.inl ()) ?_ rfl) rfl)
 exact kA l.length AT (fun k hk=>aM A_ (ay ⟨BY,AT⟩ (ay ⟨BY,AT⟩ (an BY rfl)))) (an BY rfl)
def adJ(l:List aA)(hl:l.length<=5000)(h:∀o∈l,mG o o=some true):pE l l=some true:=by
 refine an BY (dm (mN (z:=.inl ()) ?_ rfl) rfl)
 refine kA l.length AT (fun k hk=>aM A_ (ay ⟨BY,AT⟩ (ay ⟨BY,AT⟩ (ah (h _ (NN BY AT)) (an BY rfl))))) (an BY rfl)
end Go.AB
end
section
set_option maxRecDepth 4000
namespace Go.AB
open Go
attribute[-go_sem] Nat.add_zero mi cy
def Vj{b:List UInt8}{a c:Int}(h0:0<=a)(h1:a<=c)(h2:c<=b.length):((part b a c).length=(c -a).toNat)/\∀i,i<(part b a c).length->(part b a c)[i]? =b[a.toNat+i]? :=by grind [part,List.length_take,List.length_drop,List.getElem?_take_of_lt]
def RP{b:List UInt8}{l:List aj}(hb:b.length<=1500)(hl:l.length<=30):
 ∃g,iter (ve b l) (0,⟨b.length,[],fun _=>none⟩)=some g/\∃k,k<=30/\GB b k g:=by
 refine eh (body:=ve b l) (fun q=>∃k:Nat,q.1=k/\k<=l.length/\∃j,j<=k/\GB b j q.2) (fun q=>l.length -q.1.toNat) _ ⟨0,rfl,Nat.zero_le _,0,Nat.le_refl _,TI b⟩ A_ ?_
 rintro⟨k,g⟩ ⟨k,rfl,hk,j,hj,G⟩
 unfold ve
 dsimp
 by_cases hc:k<l.length
 ·rw[if_pos A_]
  generalize ix l k=y
  by_cases hy:(((decide (y.aP>=0))&&(decide (y.aP<=y.To)))&&(decide (y.To<=b.length)))=true
  ·rw[if_pos hy]
   have hy2:0<=y.aP/\y.aP<=y.To/\y.To<=b.length:=A_
   obtain⟨p1,p2⟩:=Vj hy2.1 hy2.2.1 hy2.2.2
   obtain⟨g',q1,q2,_⟩:=TJ G AT AT y.aP.toNat (part b y.aP y.To) AT p2
   have e:(y.aP.toNat:Int)=y.aP:=AT
   rw[e]at q1
   refine⟨_,ay ⟨AT,AT⟩ (ay hy2 (ah q1 (ay (by rw[q2.c8];omega) rfl))),⟨k+1,ao AT AT,AT,j+1,AT,q2⟩,?_⟩
   grind [aC,ao]
  ·rw[if_neg hy]
   refine⟨_,ay ⟨AT,AT⟩ rfl,⟨k+1,ao AT AT,AT,j,AT,G⟩,?_⟩
   grind [aC,ao]
 ·rw[if_neg A_]
  exact⟨_,rfl,j,AT,G⟩
def Bd(b:List UInt8)(g:iS)(u:Int):Prop:=∃v:Nat,u=v/\v<b.length/\¬dH v g.known
theorem Bd.ok{b:List UInt8}{k:Nat}{g:iS}(G:GB b k g)(hk:k<=30)(hb:b.length<=1500){u0:Int}(h:Bd b g u0):0<=u0/\u0<b.length/\∃u,lD g.known (max 0 u0)=some u/\min g.total u=u0:=by
 obtain⟨v,v1,v2,v3⟩:=h
 obtain⟨u,u1,u2,u3,u4⟩:=Mn (a:=max 0 u0) G.form (by have:=G.len;omega)
 have hm:max 0 u0=v:=AT
 have:u=v:=A_
 exact⟨AT,AT,u,u1,by rw[G.c8];omega⟩
def Za{b:List UInt8}{l:List aj}{t:dn}{y:jq}{S:List Int}(hS:S.length<=5000)(hy:Rf S 301 y.bp)(hb:b.length<=1500)(hl:l.length<=30)(ht:t.da.length<=40):∃g w x,MQ b l t y g w x:=by
 obtain⟨g,hs,k,hk,G⟩:=RP hb hl
 obtain⟨w,w1,W,w2⟩:=TJ (TI b) BY AT 0 b BY fun i hi=>BY
 have two:=fun n=>Xv G W (fun p hp=>(w2 p).2 (.inr ⟨BY,AT⟩)) AT BY hb t n ht
 have c8:∀F,Tot (Bd b g) (LM F g t):=fun F n=>by
  obtain⟨r,r',h1,h2,h3,h4,h5⟩:=two n
  exact⟨r,h1,h3,fun h=>(h4 h).2,fun h=>(h5 h).2⟩
 have more:∀F F2,afE (LM F g t) (LM F2 w t):=fun F F2=>⟨rfl,fun n x hx hg=>by
  obtain⟨r,r',h1,h2,h3,h4,h5⟩:=two n
  obtain rfl:x=r:=Option.some.inj (hx.symm.trans h1)
  rw[(h5 hg).1]at h2
  exact h2⟩
 refine⟨g,w,0,hs,by rw[G.c8];omega,w1,by rw[W.c8];omega,fun F=>?_⟩
 obtain⟨z,z1,⟨e1,e2⟩,z2,z3,z4,z5⟩:=ML (c8 F) hS hy BY
 exact⟨z,z1,fun h6=>⟨z2 h6,(e1 h6).ok G hk hb⟩,fun h6=>⟨e2 h6,adK _ AT,adJ _ AT fun o ho=>Mk o (z5 o ho),fun F2=>MK (more F F2) y z z1 h6⟩⟩
def s8(b:List UInt8)(l:List aj)(t:jM)(y:gX):∃r,oJ y=some r/\(r=true->b.length<=1500->l.length<=30->t.da.length<=40->∃g w x,MQ b l ⟨t.da,t.pN⟩ ⟨y.lC,y.Path,y.bp⟩ g w x):=by
 obtain⟨r,r1,r2⟩:=Sm y
 refine⟨r,r1,fun h hb hl ht=>?_⟩
 obtain⟨S,s1,s2⟩:=r2 h
 exact Za s1 s2 hb hl ht
end Go.AB
end
section
namespace Go.AB
open Go Go.RowKit Go.ChangeShapes Go.WideShapes
def wG(N:Nat)(w:World)(b:Nat):Nat:=if b<w.heap.size then N else 0
def NS{P:Program}{w:World}{f:FuncId}{args:List AV}{vs:Array Value}(N:Nat)(hf:FN P f args uW fun rs _=>rs=[.bool true])(ha:k8 w (wG N w) args vs):
 Calls P f vs w fun e w'=>e=.returned (.bool true)/\Below w.heap.size w w':=by
 refine(hf ⟨wG N w,fun _=>.none⟩ w vs ⟨fun _ _=>rfl,fun b hb=>?_⟩ (fun b=>.inl rfl) (fun b o h=>F_) ha).mono fun e w'⟨v,rs,s',G',he,hq,_,_,hr,hp⟩=>?_
 ·unfold wG
  grind
 ·subst hq
  refine⟨?_,⟨hp.os,hp.tape,hp.output,hp.size,fun b hb=>hp.frame b hb (.inr rfl)⟩⟩
  rw[he]
  have:=VR.gF hr.1
  rw[this]
def E0(w:World)(R:Nat->Nat)(as1:List AV)(cs:List Value):Prop:=cs.length=as1.length/\∀(j:Nat)(a:AV)(v:Value),as1[j]? =some a->cs[j]? =some v->VR w R a v
def E0.one{w:World}{R:Nat->Nat}{a:AV}{v:Value}(h:VR w R a v):E0 w R [a] [v]:=by
 refine⟨rfl,fun j a' v' h1 h2=>?_⟩
 grind
theorem E0.append{w:World}{R:Nat->Nat}{as1 bs:List AV}{cs ds:List Value}(h:E0 w R as1 cs)(k:E0 w R bs ds):E0 w R (as1++bs) (cs++ds):=by
 refine⟨by rw[List.length_append,List.length_append,h.1,k.1],fun j a v h1 h2=>?_⟩
 rcases Nat.lt_or_ge j as1.length with hj|hj
 ·rw[List.getElem?_append_left hj]at h1
  rw[List.getElem?_append_left (by rw[h.1];exact hj)]at h2
  exact h.2 j a v h1 h2
 ·rw[List.getElem?_append_right hj]at h1
  rw[List.getElem?_append_right (by rw[h.1];exact hj),h.1]at h2
  exact k.2 _ a v h1 h2
def ki(P:Program)(t:TypeId){α:Type}(n:Nat)(C:α->List AV)(wf:α->Prop):Prop:=
 ∀(H:Type)(enc:TypeId×Value->H)(w:World)(fuel:Nat)(cs:List Value)(x:DataW H×List MemPlace),DataW.trod enc P w 0 (fun _=>true) true fuel t cs=some x->
  cs.length=n/\∃a:α,wf a/\Fl (C a)/\∃N0,∀N,N0<=N->E0 w (wG N w) (C a) cs
def vP(P:Program)(t:TypeId)(α:Type)[aO α](wf:α->Prop):Prop:=ki P t (aO.w α) (aO.cells:α->List AV) wf
section
variable{P:Program}{t:TypeId}
def zF{a:AV}(h:qO a=true):Fl [a]:=by
 intro c hc
 grind
def mz(ht:P.underlying t=some (.int .i64)):vP P t Int fun n=>-9223372036854775808<=n/\n<=9223372036854775807:=by
 intro H enc w fuel cs x h
 obtain⟨n,rfl,_,hw⟩:=DataW.trod_int ht h
 refine⟨rfl,n,?_,zF rfl,0,fun N _=>E0.one (.int _ n)⟩
 grind [Lit.wf,IntKind.min,IntKind.max,IntKind.signed,IntKind.bits]
def Vb(ht:P.underlying t=some (.int .u8)):vP P t UInt8 fun _=>True:=by
 intro H enc w fuel cs x h
 obtain⟨n,rfl,_,hw⟩:=DataW.trod_int ht h
 have hb:=by simpa[Lit.wf,IntKind.min,IntKind.max,IntKind.signed,IntKind.bits]using hw
 refine⟨rfl,UInt8.ofNat n.toNat,trivial,zF rfl,0,fun N _=>?_⟩
 have e:((UInt8.ofNat n.toNat).toNat)=n:=by rw[UInt8.toNat_ofNat'];omega
 show E0 _ _ [.int .u8 ((UInt8.ofNat n.toNat).toNat)] _
 rw[e]
 exact E0.one (.int _ n)
def Rn(ht:P.underlying t=some .string):vP P t bg fun s=>s.b.length<=maxLen:=by
 intro H enc w fuel cs x h
 obtain⟨s,rfl,_,hs⟩:=DataW.trod_string ht h
 refine⟨rfl,⟨s.data.toList⟩,H_,zF rfl,0,fun N _=>?_⟩
 have:=VR.str (w:=w) (R:=wG N w) s.data.toList
 exact E0.one this
def AJ{α:Type}{Q:Nat->α->Prop}:∀n:Nat,(∀i,i<n->∃a,Q i a)->∃l:List α,l.length=n/\∀(i:Nat)(a:α),l[i]? =some a->Q i a
 |0,_=>⟨[],rfl,fun i a h=>A_⟩
 |n+1,h=>by
  obtain⟨l,h1,h2⟩:=AJ n fun i hi=>h i AT
  obtain⟨a,ha⟩:=h n BY
  refine⟨l++[a],A_,fun i x hx=>?_⟩
  grind
def common{Q:Nat->Nat->Prop}:∀n:Nat,(∀i,i<n->∃N0,∀N,N0<=N->Q i N)->∃N0,∀N,N0<=N->∀i,i<n->Q i N
 |0,_=>⟨0,fun _ _ i h=>absurd h (Nat.not_lt_zero i)⟩
 |n+1,h=>by
  obtain⟨a,ha⟩:=common n fun i hi=>h i AT
  obtain⟨b,hb⟩:=h n BY
  refine⟨max a b,fun N hN i hi=>?_⟩
  grind
def TE{α:Type}[aO α](l:List α){i r:Nat}{a:α}(hi:l[i]? =some a)(hr:r<aO.w α):(flat l)[i*aO.w α+r]? =(aO.cells a)[r]? :=by
 have h1:=lH l (aO.w α) i 1 rfl
 obtain⟨hlt,he⟩:=List.getElem?_eq_some_iff.1 hi
 have h2:(l.drop i).take 1=[a]:=by rw[List.drop_eq_getElem_cons hlt,he];rfl
 rw[h2,oC,qP,List.append_nil]at h1
 rw[<-h1]
 unfold AB.sub
 grind
end
end Go.AB
end
section
namespace Go.AB
open Go Go.RowKit Go.ChangeShapes Go.WideShapes
section
variable{P:Program}
theorem wx{H:Type}{enc:TypeId×Value->H}(hl:laidOutB P=true){W W':World}(hb:Below W.heap.size W W'):
 ∀{ts:List TypeId}{vs:List Value}{ds:List (DataW H)}{ps:List MemPlace},(∀t∈ts,P.readableRec t=true/\t<P.types.size)->DataW.TrodAll enc P W 0 (fun _=>true) true ts vs ds ps->
  DataW.TrodAll enc P W' 0 (fun b=>decide (b<W.heap.size)) true ts vs ds ps
 |[],[],[],_,_,h=>h
 |t::ts,v::vs,d::ds,_,hr,h=>by
  have hlt:=h.lt
  obtain⟨p,q,h1,h2,rfl⟩:=h
  have ht:=hr t List.mem_cons_self
  exact⟨p,q,Below.trod hl ht.1 ht.2 h1 hb fun x hx=>hlt x (List.mem_append_left _ hx),wx hl hb (fun t ht=>hr t (List.mem_cons_of_mem _ ht)) h2,rfl⟩
 |[],_::_,_,_,_,h=>h.elim
 |[],[],_::_,_,_,h=>h.elim
 |_::_,[],_,_,_,h=>h.elim
 |_::_,_::_,[],_,_,h=>h.elim
def UH{H:Type}{enc:TypeId×Value->H}{fn:Func}{s:ChangeSpec}{f:FuncId}{W:World}{args:Array Value}{ds gs:List (DataW H)}{before:List MemPlace}{tb:TypeId}
 (aay:s.vars=[])(oc:fn.resultTypes= #[tb])(htb:P.underlying tb=some .bool)(hl:laidOutB P=true)(hr:∀t∈fn.params.toList,P.readableRec t=true/\t<P.types.size)
 (agF:∀ds:List (DataW H),ds.length=fn.params.toList.length->s.fn H ds={results:=[.lit (.bool true)],args:=ds})
 (hW:DataW.Whole enc P fn.params.toList s.vars false W args.toList ds gs before)
 (hc:Calls P f args W fun e w'=>e=.returned (.bool true)/\Below W.heap.size W w'):
 Calls P f args W fun e W'=>∃v,e=.returned v/\s.post enc P fn false true false false W args v W':=by
 refine hc.mono fun e W'⟨he,hb⟩=>⟨.bool true,he,?_⟩
 have hW':=hW
 obtain⟨p,q,hA,hV,rfl,hfz,hnd⟩:=hW
 rw[aay]at hV
 obtain⟨rfl,rfl⟩:=trodVars_none hV
 have hs:=agF ds (trodAll_length hA).2
 refine⟨ds,[],_,[],p,[],hW',?_,?_,?_,?_,fun h=>A_⟩
 ·rw[List.append_nil,hs,oc]
  exact trodAll_mk1 (shut_bool htb true)
 ·grind [wx]
 ·rw[List.append_nil,hs,aay]
  exact rfl
 ·exact World.keptBut_mono (fun p hp=>hp.elim) (hb.frame fun _=>False)
def Co(P:Program)(fs:List (TypeId×Nat))(o:Nat){α:Type}(n:Nat)(C:α->List AV)(wf:α->Prop):Prop:=
 ∀(H:Type)(enc:TypeId×Value->H)(w:World)(fuel:Nat)(cs:List Value),(∀f∈fs,∃x,DataW.trod enc P w 0 (fun _=>true) true fuel f.1 ((cs.drop f.2).take (P.cellsOf f.1))=some x)->
  ∃a:α,wf a/\Fl (C a)/\∃N0,∀N,N0<=N->E0 w (wG N w) (C a) ((cs.drop o).take n)
def xj{o:Nat}:Co P [] o 0 (fun _:Unit=>[]) fun _=>True:=fun _ _ _ _ _ _=>⟨(),trivial,(fun _ h=>absurd h List.not_mem_nil),0,fun _ _=>⟨D_,fun j a v h=>BY⟩⟩
def jK{t:TypeId}{o n1 n2:Nat}{fs:List (TypeId×Nat)}{α β:Type}{C1:α->List AV}{C2:β->List AV}{wf1:α->Prop}{wf2:β->Prop}
 (h1:ki P t n1 C1 wf1)(hc:P.cellsOf t=n1)(h2:Co P fs (o+n1) n2 C2 wf2):Co P ((t,o)::fs) o (n1+n2) (fun p:α×β=>C1 p.1++C2 p.2) fun p=>wf1 p.1/\wf2 p.2:=by
 intro H enc w fuel cs h
 obtain⟨x,hx⟩:=h _ List.mem_cons_self
 obtain⟨_,a,ha,hfa,N1,hN1⟩:=h1 H enc w fuel _ x hx
 obtain⟨b,hb,hfb,N2,hN2⟩:=h2 H enc w fuel cs fun f hf=>h f (List.mem_cons_of_mem _ hf)
 refine⟨(a,b),⟨ha,hb⟩,fun c hc=>(List.mem_append.1 hc).elim (hfa c) (hfb c),max N1 N2,fun N hN=>?_⟩
 grind [List.drop_drop,E0.append]
theorem ki.map{t:TypeId}{n:Nat}{α β:Type}{C:α->List AV}{wf:α->Prop}(h:ki P t n C wf){C':β->List AV}{wf':β->Prop}(g:α->β)(hC:∀a,C' (g a)=C a)(hw:∀a,wf a->wf' (g a)):ki P t n C' wf':=by
 intro H enc w fuel cs x hx
 obtain⟨h1,a,h2,h3,N0,h4⟩:=h H enc w fuel cs x hx
 exact⟨h1,g a,hw a h2,A_,N0,A_⟩
def Jh{t:TypeId}{fs:Array Field}{n:Nat}{α:Type}{C:α->List AV}{wf:α->Prop}(ht:P.underlying t=some (.struct fs))(hn:P.cellsOf t=n)
 (hf:Co P (fs.toList.map fun f=>(f.type,f.offset)) 0 n C wf):ki P t n C wf:=by
 intro H enc w fuel cs x h
 obtain⟨xs,m,_,_,hl,hxl,hel⟩:=DataW.trod_struct ht h
 obtain⟨a,ha,hfa,N0,hN⟩:=hf H enc w m cs fun f hf=>by grind [List.getElem?_of_mem,List.getElem?_eq_some_iff,List.getElem?_eq_getElem]
 refine⟨A_,a,ha,hfa,N0,fun N h=>?_⟩
 grind
section
variable{H:Type}{enc:TypeId×Value->H}{w:World}{t:TypeId}{α:Type}[aO α]{wf:α->Prop}{b0:Nat}{v:Value}{d:DataW H}{ps:List MemPlace}
def LR(hs:(∃fs,P.underlying t=some (.struct fs))\/∃n e,P.underlying t=some (.array n e))(he:vP P t α wf)(qU:Value.okWide P w .any b0 t v)(h:DataW.Trod enc P w 0 (fun _=>true) true t v d ps):
 ∃a:α,wf a/\∃N0,∀N,N0<=N->VR w (wG N w) (.agg (aO.cells a)) v:=by
 have hv:∃cs,v=.agg cs:=by
  unfold Value.okWide at qU
  rcases hs with⟨fs,hs⟩|⟨n,e,hs⟩<;>rw[hs]at qU<;>obtain⟨cs,rfl,_⟩:=qU<;>exact⟨cs,rfl⟩
 obtain⟨cs,rfl⟩:=hv
 obtain⟨fuel,hf⟩:=h
 obtain⟨_,a,ha,hfl,N0,hN⟩:=he H enc w fuel _ _ hf
 refine⟨a,ha,N0,fun N h=>?_⟩
 have h1:=hN N h
 exact .agg _ _ hfl (by simpa[Value.cells]using h1.1) fun j c v h2 h3=>h1.2 j c v h2 (by grind [Value.cells])
theorem E0.head{R:Nat->Nat}{a:AV}(h:E0 w R [a] [v]):VR w R a v:=h.2 0 a v rfl rfl
end
end
end Go.AB
end
section
namespace Go.AB
open Go
def oA(P:Program)(t:TypeId)(L:List (TypeId×Nat)):Bool:=match P.underlying t with
 |some (.struct fs)=>fs.toList.map (fun f=>(f.type,f.offset))==L
 |_=>false
def sj{P:Program}{t:TypeId}{L:List (TypeId×Nat)}{n:Nat}{α:Type}{C:α->List AV}{wf:α->Prop}(hs:oA P t L=true)(hn:P.cellsOf t=n)(hf:Co P L 0 n C wf):ki P t n C wf:=by
 unfold oA at hs
 split at hs
 ·rename_i fs ht
  have he:=eq_of_beq hs
  exact Jh ht hn (by rw[he];exact hf)
 ·cases hs
end Go.AB
end
section
namespace Go.AB
open Go Go.RowKit Go.ChangeShapes Go.WideShapes
def gO(K:Nat)(P:Program)(t:TypeId){α:Type}(n:Nat)(C:α->List AV)(wf:α->Prop):Prop:=
 ∀(H:Type)(enc:TypeId×Value->H)(w:World)(fuel:Nat)(cs:List Value)(x:DataW H×List MemPlace),fuel<=K->DataW.trod enc P w 0 (fun _=>true) true fuel t cs=some x->
  cs.length=n/\∃a:α,wf a/\Fl (C a)/\∃N0,∀N,N0<=N->E0 w (wG N w) (C a) cs
def B6(K:Nat)(P:Program)(fs:List (TypeId×Nat))(o:Nat){α:Type}(n:Nat)(C:α->List AV)(wf:α->Prop):Prop:=
 ∀(H:Type)(enc:TypeId×Value->H)(w:World)(fuel:Nat)(cs:List Value),fuel<=K->(∀f∈fs,∃x,DataW.trod enc P w 0 (fun _=>true) true fuel f.1 ((cs.drop f.2).take (P.cellsOf f.1))=some x)->
  ∃a:α,wf a/\Fl (C a)/\∃N0,∀N,N0<=N->E0 w (wG N w) (C a) ((cs.drop o).take n)
section
variable{P:Program}{t:TypeId}
theorem ki.b{n:Nat}{α:Type}{C:α->List AV}{wf:α->Prop}(h:ki P t n C wf)(K:Nat):gO K P t n C wf:=fun H enc w fuel cs x _ hx=>h H enc w fuel cs x hx
def gO.all{n:Nat}{α:Type}{C:α->List AV}{wf:α->Prop}(h:∀K,gO K P t n C wf):ki P t n C wf:=fun H enc w fuel cs x hx=>h fuel H enc w fuel cs x (Nat.le_refl _) hx
def gO.le{n:Nat}{α:Type}{C:α->List AV}{wf:α->Prop}{K K':Nat}(h:gO K P t n C wf)(hk:K'<=K):gO K' P t n C wf:=fun H enc w fuel cs x hf hx=>h H enc w fuel cs x (Nat.le_trans hf hk) hx
theorem gO.zero{n:Nat}{α:Type}{C:α->List AV}{wf:α->Prop}:gO 0 P t n C wf:=fun H enc w fuel cs x hf hx=>by
 have:fuel=0:=AT
 subst this
 simp[DataW.trod]at hx
theorem gO.map{K n:Nat}{α β:Type}{C:α->List AV}{wf:α->Prop}(h:gO K P t n C wf){C':β->List AV}{wf':β->Prop}(g:α->β)(hC:∀a,C' (g a)=C a)(hw:∀a,wf a->wf' (g a)):gO K P t n C' wf':=by
 intro H enc w fuel cs x hf hx
 obtain⟨h1,a,h2,h3,N0,h4⟩:=h H enc w fuel cs x hf hx
 exact⟨h1,g a,hw a h2,by rw[hC];exact h3,N0,by rw[hC];exact h4⟩
def LU{K o:Nat}:B6 K P [] o 0 (fun _:Unit=>[]) fun _=>True:=fun _ _ _ _ _ _ _=>⟨(),trivial,(fun _ h=>absurd h List.not_mem_nil),0,fun _ _=>⟨BY,fun j a v h=>Xb5⟩⟩
def oo{K:Nat}{t:TypeId}{o n1 n2:Nat}{fs:List (TypeId×Nat)}{α β:Type}{C1:α->List AV}{C2:β->List AV}{wf1:α->Prop}{wf2:β->Prop}
 (h1:gO K P t n1 C1 wf1)(hc:P.cellsOf t=n1)(h2:B6 K P fs (o+n1) n2 C2 wf2):B6 K P ((t,o)::fs) o (n1+n2) (fun p:α×β=>C1 p.1++C2 p.2) fun p=>wf1 p.1/\wf2 p.2:=by
 intro H enc w fuel cs hk h
 obtain⟨x,hx⟩:=h _ List.mem_cons_self
 obtain⟨_,a,ha,hfa,N1,hN1⟩:=h1 H enc w fuel _ x hk hx
 obtain⟨b,hb,hfb,N2,hN2⟩:=h2 H enc w fuel cs hk fun f hf=>h f (List.mem_cons_of_mem _ hf)
 refine⟨(a,b),⟨ha,hb⟩,fun c hc=>(List.mem_append.1 hc).elim (hfa c) (hfb c),max N1 N2,fun N hN=>?_⟩
 rw[List.take_add,List.drop_drop]
 refine E0.append ?_ (hN2 N AT)
 rw[<-hc]
 exact hN1 N AT
def Fs{K:Nat}{L:List (TypeId×Nat)}{n:Nat}{α:Type}{C:α->List AV}{wf:α->Prop}(hs:oA P t L=true)(hn:P.cellsOf t=n)(hf:B6 K P L 0 n C wf):gO (K+1) P t n C wf:=by
 unfold oA at hs
 split at hs
 ·rename_i fs ht
  have he:=eq_of_beq hs
  subst he
  intro H enc w fuel cs x hk h
  obtain⟨xs,m,rfl,_,hl,hxl,hel⟩:=DataW.trod_struct ht h
  obtain⟨a,ha,hfa,N0,hN⟩:=hf H enc w m cs AT fun f hf=>by
   obtain⟨g,hg,rfl⟩:=List.mem_map.1 hf
   obtain⟨i,hi⟩:=List.getElem?_of_mem hg
   have h1:=hel i g (by rw[<-Array.getElem?_toList];exact hi)
   have hi':=(List.getElem?_eq_some_iff.1 hi).1
   rw[List.getElem?_eq_getElem (by simpa[hxl]using hi')]at h1
   exact⟨_,h1⟩
  refine⟨by rw[hl,hn],a,ha,hfa,N0,fun N h=>?_⟩
  have:=hN N h
  rwa[List.drop_zero,List.take_of_length_le AT]at this
 ·cases hs
def Oy{w:World}{α:Type}[aO α]{wf:α->Prop}{a:Addr}{len cap:Nat}(hl:len<=cap)(hm:cap<=maxLen)
 (each:∀i,i<len->∃x:α×List Value,wf x.1/\Fl (aO.cells x.1)/\w.cells? 0 (a.add (i*aO.w α)) (aO.w α)=some x.2/\∃N0,∀N,N0<=N->E0 w (wG N w) (aO.cells x.1) x.2):
 ∃l:List α,(l.length<=maxLen/\∀a∈l,wf a)/\Fl [.sl false (aO.w α) l.length (flat l)]/\∃N0,∀N,N0<=N->E0 w (wG N w) [.sl false (aO.w α) l.length (flat l)] [.slice (some a) len cap]:=by
 have hw:0<aO.w α:=aO.pos
 rcases Nat.eq_zero_or_pos len with h0|h0
 ·subst h0
  exact⟨[],⟨Nat.zero_le _,fun _ h=>absurd h List.not_mem_nil⟩,zF rfl,0,fun N _=>.one (.sle _ _ _)⟩
 obtain⟨b,off,spot⟩:=a
 have ach:spot=none/\b<w.heap.size:=by
  obtain⟨x,_,_,h2,_⟩:=each 0 h0
  obtain⟨_,h3,h4⟩:=World.cells?_some h2
  have h5:=h4 0 hw
  have hxl:0<x.2.length:=AT
  rw[List.getElem?_eq_getElem hxl]at h5
  unfold World.cell? at h5
  have e1:(((⟨b,off,spot⟩:Addr).add (0*aO.w α)).add 0).block=b:=by
   unfold Addr.add;repeat' split
   all_goals rfl
  have e2:(((⟨b,off,spot⟩:Addr).add (0*aO.w α)).add 0).spot.isSome=spot.isSome:=by
   cases spot with
   |none=>unfold Addr.add;repeat' split
          all_goals simp_all
   |some q=>unfold Addr.add;repeat' split
            all_goals simp_all
  rw[e1,e2]at h5
  split at h5
  ·rename_i hh
   refine⟨?_,(Array.getElem?_eq_some_iff.1 hh).1⟩
   cases spot with
   |none=>rfl
   |some q=>simp at h5
  ·cases h5
 obtain⟨rfl,hb⟩:=ach
 obtain⟨L,hL,hQ⟩:=AJ len each
 have hx:∀i,i<len->∃x,L[i]? =some x:=fun i hi=>⟨L[i]' AT,List.getElem?_eq_getElem AT⟩
 obtain⟨N0,hN0⟩:=common (Q:=fun i N=>∀x,L[i]? =some x->E0 w (wG N w) (aO.cells x.1) x.2) len fun i hi=>by
  obtain⟨x,hx⟩:=hx i hi
  obtain⟨_,_,_,N0,h⟩:=hQ i x hx
  exact⟨N0,fun N hN y hy=>by rw[hx]at hy;cases hy;exact h N hN⟩
 have hwf:∀a∈L.map (·.1),wf a/\Fl (aO.cells a):=by
  intro a ha
  obtain⟨x,hx,rfl⟩:=List.mem_map.1 ha
  obtain⟨i,hi⟩:=List.getElem?_of_mem hx
  have:=hQ i x hi
  exact⟨this.1,this.2.1⟩
 have kq:∀(j:Nat)(c:AV),(flat (L.map (·.1)))[j]? =some c->∃v,w.cell? ⟨b,off+j,none⟩=some v/\∀N,N0<=N->VR w (wG N w) c v:=by
  intro j c hj
  have hjl:=(List.getElem?_eq_some_iff.1 hj).1
  rw[au,List.length_map,hL]at hjl
  have hi:j/aO.w α<len:=Nat.div_lt_of_lt_mul (by rw[Nat.mul_comm];exact hjl)
  have hr:j % aO.w α<aO.w α:=Nat.mod_lt _ hw
  have hje:j=j/aO.w α*aO.w α+j % aO.w α:=by rw[Nat.mul_comm];exact(Nat.div_add_mod _ _).symm
  obtain⟨x,hx⟩:=hx _ hi
  have h1:=TE (L.map (·.1)) (i:=j/aO.w α) (a:=x.1) (by rw[List.getElem?_map,hx];rfl) hr
  rw[<-hje,hj]at h1
  obtain⟨_,_,h2,_⟩:=hQ _ x hx
  obtain⟨_,h3,h4⟩:=World.cells?_some h2
  have h5:=h4 _ hr
  rw[add_plain,add_plain,Nat.add_assoc,<-hje]at h5
  refine⟨x.2[j % aO.w α]' AT,by rw[h5,List.getElem?_eq_getElem],fun N hN=>?_⟩
  exact(hN0 N hN _ hi x hx).2 _ _ _ h1.symm (List.getElem?_eq_getElem _)
 refine⟨L.map (·.1),⟨by rw[List.length_map,hL];omega,fun a ha=>(hwf a ha).1⟩,zF rfl,max N0 (off+len*aO.w α),fun N hN=>.one ?_⟩
 rw[List.length_map,hL]
 refine .sl false (aO.w α) len _ b off cap (fun j=>(w.cell? ⟨b,off+j,none⟩).getD default) ?_ ?_ ?_ hl ?_ ?_
 ·intro c hcm
  unfold flat at hcm
  obtain⟨l,hl,hcl⟩:=List.mem_flatten.1 hcm
  obtain⟨a,ha,rfl⟩:=List.mem_map.1 hl
  exact(hwf a ha).2 c hcl
 ·rw[au,List.length_map,hL]
 ·rw[au,List.length_map,hL]
  unfold wG
  rw[if_pos hb];omega
 ·intro j c hj
  obtain⟨v,h1,_⟩:=kq j c hj
  rw[h1];rfl
 ·intro j c hj
  obtain⟨v,h1,h2⟩:=kq j c hj
  simp only[h1,Option.getD_some];exact h2 N AT
def yP{K:Nat}{e:TypeId}{α:Type}[aO α]{wf:α->Prop}(ht:P.underlying t=some (.slice e))(hc:P.cellsOf e=aO.w α)(he:gO K P e (aO.w α) (aO.cells:α->List AV) wf):
 gO (K+1) P t 1 (fun l:List α=>[.sl false (aO.w α) l.length (flat l)]) fun l=>l.length<=maxLen/\∀a∈l,wf a:=by
 intro H enc w fuel cs x hk h
 rcases DataW.trod_slice ht h with⟨rfl,_⟩|⟨a,len,cap,elems,rest,n,rfl,rfl,_,_,hl,hm,hlen,hel,_⟩
 ·exact⟨rfl,[],⟨Nat.zero_le _,fun _ h=>absurd h List.not_mem_nil⟩,zF rfl,0,fun N _=>.one (.slnil _ _)⟩
 ·refine⟨rfl,Oy hl hm fun i hi=>?_⟩
  have h1:=hel i hi
  rw[hc,List.getElem?_eq_getElem AT,Option.bind_eq_some_iff]at h1
  obtain⟨cs,h2,h3⟩:=h1
  obtain⟨_,x,h4,h5,h6⟩:=he H enc w n cs _ AT h3
  exact⟨(x,cs),h4,h5,h2,h6⟩
def yQ{e:TypeId}{α:Type}[aO α]{wf:α->Prop}(ht:P.underlying t=some (.slice e))(hc:P.cellsOf e=aO.w α)(he:vP P e α wf):
 ki P t 1 (fun l:List α=>[.sl false (aO.w α) l.length (flat l)]) fun l=>l.length<=maxLen/\∀a∈l,wf a:=
 gO.all fun K=>(yP ht hc (ki.b he K)).le (Nat.le_succ K)
def yc{L:List (TypeId×Nat)}(hs:oA P t L=true):∃fs,P.underlying t=some (.struct fs):=by
 unfold oA at hs
 split at hs
 ·rename_i fs ht;exact⟨fs,ht⟩
 ·cases hs
def okWide_slice{w:World}{e:TypeId}{b0:Nat}{v:Value}(ht:P.underlying t=some (.slice e))(qU:Value.okWide P w .any b0 t v):∀cs,v≠.agg cs:=by
 intro cs h
 subst h
 unfold Value.okWide Cell.okWide Cell.ok at qU
 rw[ht]at qU
 exact qU
def LS{H:Type}{enc:TypeId×Value->H}{w:World}{e:TypeId}{α:Type}[aO α]{wf:α->Prop}{v:Value}{d:DataW H}{ps:List MemPlace}
 (ht:P.underlying t=some (.slice e))(hc:P.cellsOf e=aO.w α)(he:vP P e α wf)(h:DataW.Trod enc P w 0 (fun _=>true) true t v d ps)(hv:∀cs,v≠.agg cs):
 ∃l:List α,(l.length<=maxLen/\∀a∈l,wf a)/\∃N0,∀N,N0<=N->VR w (wG N w) (.sl false (aO.w α) l.length (flat l)) v:=by
 obtain⟨fuel,hf⟩:=h
 obtain⟨_,l,hl,_,N0,hN⟩:=yQ ht hc he H enc w fuel _ _ hf
 have pg:v.cells.toList=[v]:=by cases v<;>first|rfl|exact absurd rfl (hv _)
 refine⟨l,hl,N0,fun N h=>?_⟩
 have:=hN N h
 rw[pg]at this
 exact this.head
end
end Go.AB
end
