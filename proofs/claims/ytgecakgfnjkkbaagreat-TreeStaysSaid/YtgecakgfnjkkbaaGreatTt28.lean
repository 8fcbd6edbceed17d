/- A part. -/
import Derived.Test.YtgecakgfnjkkbaaGreatTt27
import Derived.OpenShut
import Derived.ChangeCalls
set_option linter.defProp false
set_option linter.unusedSimpArgs false
set_option linter.unusedVariables false
section
set_option maxRecDepth 4000
namespace Go.AB
open Go
attribute[-go_sem] Nat.add_zero mO cF
def Be(m:JO)(p:Nat):Option UInt8:=(m ((p/4096:Nat):Int)).bind fun l=>l[p % 4096]?
def Mm(m:JO):Prop:=∀k l,m k=some l->l.length=4096
theorem Uw{c x:List UInt8}{o i:Nat}(h:o+x.length<=c.length):(nS c o x)[i]? =if o<=i/\i<o+x.length then x[i -o]? else c[i]? :=by
 unfold nS
 have ht:(c.take o).length=o:=A_
 by_cases h1:i<o
 ·rw[if_neg AT,List.append_assoc,List.getElem?_append_left AT,List.getElem?_take_of_lt h1]
 ·by_cases h2:i<o+x.length
  ·rw[if_pos AT,List.append_assoc,List.getElem?_append_right AT,ht,List.getElem?_append_left AT]
  ·rw[if_neg AT,List.getElem?_append_right A_,List.length_append,List.getElem?_drop]
   congr 1;omega
theorem Ov{m:JO}{k p:Nat}{l:List UInt8}:Be (pA m (k:Int) l) p=if p/4096=k then l[p % 4096]? else Be m p:=by
 unfold Be pA
 by_cases h:p/4096=k
 ·rw[if_pos AT,if_pos h];rfl
 ·rw[if_neg AT,if_neg h]
theorem tm4(a:Nat):((a:Int).tmod 4096).toNat=a % 4096:=D_
theorem td4{a:Nat}(h:a<4611686018427387904):aC ((a:Int).tdiv 4096)=((a/4096:Nat):Int):=by grind [Int.tdiv_eq_ediv_of_nonneg,an]
def VH{m:JO}(hm:Mm m)(a0:Nat)(l0:List UInt8)(hb:a0+l0.length<=2147483647):
 ∃m',iter El ((a0:Int),l0,m)=some m'/\Mm m'/\(∀p,a0<=p->p<a0+l0.length->Be m' p=l0[p -a0]?)/\∀p x,¬(a0<=p/\p<a0+l0.length)->Be m p=some x->Be m' p=some x:=by
 refine dw (fun st:Int×List UInt8×JO=>∃a:Nat,st.1=a/\a0<=a/\a<=a0+l0.length/\st.2.1=l0.drop (a -a0)/\Mm st.2.2/\(∀p,a0<=p->p<a->Be st.2.2 p=l0[p -a0]?)/\∀p x,¬(a0<=p/\p<a)->Be m p=some x->Be st.2.2 p=some x)
  (fun st=>st.2.1.length) _ ⟨a0,rfl,Nat.le_refl _,AT,BY,hm,fun p h1 h2=>AT,fun p x _ h=>h⟩ (by show l0.length<_;omega) ?_
 rintro⟨a,l,M⟩ ⟨a,rfl,h1,h2,rfl,hM,h3,h4⟩
 have hl:(l0.drop (a -a0)).length=l0.length -(a -a0):=List.length_drop
 unfold El
 by_cases hc:0<(l0.drop (a -a0)).length
 ·dsimp only
  rw[if_pos J_]
  refine⟨_,rfl,?_⟩
  rw[tm4,td4 AT]
  have hn:min (l0.drop (a -a0)).length (4096 -a % 4096)=min (l0.length -(a -a0)) (4096 -a % 4096):=by rw[hl]
  generalize hN:min (l0.drop (a -a0)).length (4096 -a % 4096)=n at hn
  have alZ:a % 4096<4096:=Nat.mod_lt _ By
  rw[an AT AT]
  generalize hc0:(M ((a/4096:Nat):Int)).getD VN=c
  have hcl:c.length=4096:=by
   subst hc0
   cases e:M ((a/4096:Nat):Int)with
   |none=>exact List.length_replicate ..
   |some l=>exact hM _ _ e
  have htl:((l0.drop (a -a0)).take n).length=n:=N_
  have ajy:∀p x,p/4096=a/4096->Be M p=some x->c[p % 4096]? =some x:=fun p x e hp=>by
   unfold Be at hp
   rw[e]at hp
   subst hc0
   cases e2:M ((a/4096:Nat):Int)with
   |none=>rw[e2]at hp;cases hp
   |some l=>rw[e2]at hp;exact hp
  have hov:∀p,p/4096=a/4096->(nS c (a % 4096) ((l0.drop (a -a0)).take n))[p % 4096]? =if a<=p/\p<a+n then l0[p -a0]? else c[p % 4096]? :=fun p e=>by
   rw[Uw AT,htl]
   by_cases hp:a<=p/\p<a+n
   ·rw[if_pos AT,if_pos hp,List.getElem?_take_of_lt AT,List.getElem?_drop]
    congr 1;omega
   ·rw[if_neg AT,if_neg hp]
  refine⟨⟨a+n,AT,AT,AT,?_,?_,fun p q1 q2=>?_,fun p x q1 q2=>?_⟩,?_⟩
  ·grind [List.drop,List.drop_drop]
  ·intro k l hk
   have hk':(if k=((a/4096:Nat):Int)then some (nS c (a % 4096) ((l0.drop (a -a0)).take n))else M k)=some l:=hk
   split at hk'
   ·grind [nS,List.length_append,List.length_drop,List.length_take]
   ·exact hM k l hk'
  ·show Be (pA M _ _) p=_
   rw[Ov]
   by_cases e:p/4096=a/4096
   ·rw[if_pos e,hov p e]
    by_cases hp:a<=p/\p<a+n
    ·rw[if_pos hp]
    ·rw[if_neg hp]
     grind [q1,List.getElem?_eq_getElem]
   ·rw[if_neg e]
    grind [q1]
  ·show Be (pA M _ _) p=_
   rw[Ov]
   have h5:=h4 p x AT q2
   by_cases e:p/4096=a/4096
   ·rw[if_pos e,hov p e,if_neg AT]
    exact ajy p x e h5
   ·rw[if_neg e];exact h5
  grind [List.drop,List.length_drop]
 ·dsimp only
  rw[if_neg J_]
  have e:a=a0+l0.length:=AT
  subst e
  exact⟨_,rfl,hM,h3,h4⟩
def Yf{M:JO}(hM:Mm M){b:List UInt8}(a n:Nat)(hb:a+n<=b.length)(hl:b.length<=2147483647)(h:∀p,a<=p->p<a+n->Be M p=b[p]?):
 iter (LL M (a:Int) (n:Int)) []=some ((b.drop a).take n):=by
 refine iter_eq (fun out=>∃j,j<=n/\out=(b.drop a).take j) (fun out=>n -out.length) ⟨0,Nat.zero_le _,BY⟩ AT ?_
 rintro _ ⟨j,hj,rfl⟩
 have hlen:((b.drop a).take j).length=j:=Xa5
 unfold LL
 rw[hlen]
 by_cases hc:j<n
 ·left
  rw[if_pos J_]
  have e1:aC ((a:Int)+(j:Int))=((a+j:Nat):Int):=E_
  rw[e1,tm4,td4 AT]
  have hq:=h (a+j) AT AT
  rw[List.getElem?_eq_getElem AT]at hq
  unfold Be at hq
  cases e:M (((a+j)/4096:Nat):Int)with
  |none=>rw[e]at hq;cases hq
  |some sI=>
   have hbl:=hM _ _ e
   refine⟨_,aA rfl rfl,⟨j+min (4096 -(a+j)% 4096) (n -j),AT,?_⟩,?_⟩
   ·rw[show((n:Int) -(j:Int)).toNat=n -j by omega]
    rw[List.take_add,List.drop_drop]
    congr 1
    refine List.ext_getElem? fun i=>?_
    by_cases hi:i<min (4096 -(a+j)% 4096) (n -j)
    ·rw[List.getElem?_take_of_lt hi,List.getElem?_take_of_lt hi,List.getElem?_drop,List.getElem?_drop]
     have h5:=h (a+j+i) AT AT
     unfold Be at h5
     rw[show(a+j+i)/4096=(a+j)/4096 by omega,e]at h5
     rw[<-h5]
     congr 1;omega
    grind [List.getElem?_take_eq_none]
   grind [List.take,min,List.length_append,List.length_take,List.length_drop]
 ·right
  rw[if_neg J_]
  have:j=n:=AT
  subst this;rfl
structure GB(b:List UInt8)(n:Nat)(g:iQ):Prop where
 da:g.total=b.length
 form:Form g.known
 le:∀y∈g.known,y.To<=b.length
 len:g.known.length<=n
 ok:Mm g.sI
 by_:∀p:Nat,dQ p g.known->Be g.sI p=b[p]?
def SR(b:List UInt8):GB b 0 ⟨b.length,[],fun _=>none⟩:=⟨rfl,⟨fun _ h=>absurd h List.not_mem_nil,List.Pairwise.nil⟩,fun _ h=>absurd h List.not_mem_nil,Nat.le_refl _,fun k l h=>A_,fun p⟨_,h,_⟩=>absurd h List.not_mem_nil⟩
def SS{b:List UInt8}{n:Nat}{g:iQ}(h:GB b n g)(hn:n+2<=100000000)(hb:b.length<=2147483647)(a:Nat)(l:List UInt8)(hl:a+l.length<=b.length)(he:∀i,i<l.length->l[i]? =b[a+i]?):
 ∃g',kN g a l=some (g',0)/\GB b (n+1) g'/\∀p,dQ p g'.known↔dQ p g.known\/((a:Int)<=p/\p<a+l.length):=by
 obtain⟨da,form,le,len,ok,by_⟩:=h
 have hw:aC ((a:Int)+(l.length:Int))=(a:Int)+l.length:=an AT AT
 have hw2:aC (g.total -(a:Int))=(b.length:Int) -a:=by rw[da];exact an AT AT
 obtain⟨ms,m1,m2,m3,m4,m5⟩:=LX (x:=⟨a,(a:Int)+l.length⟩) form AT
 obtain⟨kn,k1,k2,k3,k4,k5⟩:=Yp (x:=⟨a,(a:Int)+l.length⟩) form (fun y hy=>by have:=le y hy;omega) (by show(a:Int)+l.length<=_;omega) AT
 have hin:∀y∈ms,(a:Int)<=y.aS/\y.aS<y.To/\y.To<=a+l.length:=fun y hy=>by
  have h1:=m2.1 y hy
  have h2:=((m5 y.aS).1 ⟨y,hy,Int.le_refl _,h1.2⟩).2.1
  exact⟨h2.1,h1.2,m4 y hy⟩
 have hms:ms.length<4611686018427387904:=AT
 obtain⟨m',w1,w2,w3,w4⟩:=dw (body:=XY a l ms) (s0:=(0,g.sI))
  (fun q=>∃k:Nat,q.1=k/\k<=ms.length/\Mm q.2/\(∀p:Nat,dQ p (ms.take k)->Be q.2 p=b[p]?)/\∀p:Nat,dQ p g.known->Be q.2 p=b[p]?)
  (fun q=>ms.length -q.1.toNat) (fun m'=>Mm m'/\(∀p:Nat,dQ p ms->Be m' p=b[p]?)/\∀p:Nat,dQ p g.known->Be m' p=b[p]?)
  ⟨0,rfl,Nat.zero_le _,ok,fun p⟨_,h,_⟩=>by simp at h,by_⟩ (by show ms.length -_<_;omega) (by
    rintro⟨k,M⟩ ⟨k,rfl,hk,q1,q2,q3⟩
    dsimp only at q1 q2 q3
    unfold XY
    dsimp only
    by_cases hc:k<ms.length
    ·rw[if_pos J_]
     have hix:ix ms (k:Int)=ms[k]:=gr hc
     rw[hix]
     obtain⟨r1,r2,r3⟩:=hin ms[k] (List.getElem_mem _)
     generalize hy:ms[k]=y at r1 r2 r3
     obtain⟨F,hF⟩:∃F:Nat,y.aS=F:=⟨y.aS.toNat,AT⟩
     have hpl:(part l (y.aS -a) (y.To -a)).length=(y.To -y.aS).toNat:=by
      unfold part
      rw[List.length_take,List.length_drop];omega
     have hpe:∀i,i<(y.To -y.aS).toNat->(part l (y.aS -a) (y.To -a))[i]? =b[F+i]? :=fun i hi=>by
      unfold part
      rw[List.getElem?_take_of_lt AT,List.getElem?_drop,he _ AT]
      congr 1;omega
     obtain⟨M',v1,v2,v3,v4⟩:=VH q1 F (part l (y.aS -a) (y.To -a)) (by rw[hpl];omega)
     rw[hpl]at v3 v4
     have hbk:∀p:Nat,p<b.length->b[p]? =some (b[p]?.getD 0):=fun p hp=>by rw[List.getElem?_eq_getElem hp];rfl
     refine⟨_,aA ⟨AT,AT,r1,AT,r3⟩ (ah (by rw[hF];rw[hF]at v1;exact v1) rfl),⟨k+1,an AT AT,hc,v2,fun p hp=>?_,fun p hp=>?_⟩,?_⟩
     ·by_cases hq:F<=p/\p<F+(y.To -y.aS).toNat
      ·show Be M' p=_
       rw[v3 p hq.1 hq.2,hpe _ AT]
       congr 1;omega
      ·have hp':dQ p (ms.take k):=by
        rcases(L7 hc).1 hp with h|h
        ·exact h
        ·rw[hy]at h;exact absurd ⟨by have:=h.1;omega,by have:=h.2;omega⟩ hq
       have hpb:p<b.length:=by
        obtain⟨x,hx,hx2⟩:=hp'
        have:=(hin x (List.mem_of_mem_take hx)).2.2
        have:=hx2.2;omega
       grind [Be,q2]
     ·by_cases hq:F<=p/\p<F+(y.To -y.aS).toNat
      ·show Be M' p=_
       rw[v3 p hq.1 hq.2,hpe _ AT]
       congr 1;omega
      ·have hpb:p<b.length:=by
        obtain⟨x,hx,hx2⟩:=hp
        have:=le x hx
        have:=hx2.2;omega
       grind [Be]
     grind [aC,an]
    ·rw[if_neg J_]
     have:k=ms.length:=AT
     subst this
     exact⟨_,rfl,q1,fun p hp=>q2 p (by rwa[List.take_length]),q3⟩)
 have hsv:∀p:Int,(Re ⟨a,(a:Int)+l.length⟩=true/\sx p ⟨a,(a:Int)+l.length⟩)↔((a:Int)<=p/\p<a+l.length):=fun p=>by
  unfold Re sx
  simp
  omega
 refine⟨⟨g.total,kn,m'⟩,?_,⟨da,k2,fun y hy=>?_,by show kn.length<=n+1;omega,w2,fun p hp=>?_⟩,fun p=>(k5 p).trans (or_congr Iff.rfl (hsv p))⟩
 ·unfold kN
  rw[if_neg (by rw[da];simp;omega),hw2,if_neg C3,hw,m1,aN,w1,aN,k1,aN]
 ·have h1:=k2.1 y hy
  rcases(k5 (y.To -1)).1 ⟨y,hy,AT,AT⟩with⟨x,hx,hx2⟩|h
  ·have:=le x hx
   have:=hx2.2;omega
  ·have:=((hsv _).1 h).2;omega
 grind [dQ,absurd]
def WK{b:List UInt8}{n:Nat}{g:iQ}(h:GB b n g)(hn:n<=100000000)(hb:b.length<=2147483647)(a most:Nat)(ha:a<=b.length)(hm:most<=2147483647):
 ∃u:Nat,lC g.known a=some (u:Int)/\a<=u/\u<=b.length/\¬dQ u g.known/\(∀p:Int,a<=p->p<u->dQ p g.known)/\jD g a most=some ((b.drop a).take (min most (u -a)),decide (a+min most (u -a)=b.length)):=by
 obtain⟨da,form,le,len,ok,by_⟩:=h
 obtain⟨r,u1,u2,u3,u4⟩:=LY (a:=(a:Int)) form AT
 obtain⟨u,rfl⟩:∃u:Nat,r=u:=⟨r.toNat,AT⟩
 have hu:u<=b.length:=by
  by_cases e:u=a
  ·omega
  ·obtain⟨x,hx,hx2⟩:=u3 ((u:Int) -1) AT AT
   have:=le x hx
   have:=hx2.2;omega
 refine⟨u,u1,AT,hu,u4,u3,?_⟩
 unfold jD
 have e1:min (most:Int) ((u:Int) -a)=((min most (u -a):Nat):Int):=AT
 have hr:=Yf ok (b:=b) a (min most (u -a)) AT hb (fun p h1 h2=>by_ p (u3 p AT AT))
 rw[if_neg (by rw[da];simp;omega),u1,aN,bk (by rw[da];omega),e1,hr,aN,an AT AT,da]
 congr 2
 rw[Bool.eq_iff_iff]
 simp
 omega
def WH(t:dq)(n:Int)(hl:t.df.length<=40):∃p,oB t n=some p/\(p.2=true->0<=p.1):=by
 by_cases h:n<1\/n>t.df.length
 ·have hc:((decide (n<1))||(decide (n>t.df.length)))=true:=A_
  refine⟨(0,false),aA (fun h2=>A_) ?_,fun h=>BY⟩
  rw[if_pos A_]
 ·have hw:aC (n -1)=n -1:=an AT AT
  by_cases h0:ix t.df (aC (n -1))<0
  ·refine⟨(0,false),aA (fun _=>AT) ?_,fun h=>BY⟩
   rw[if_pos A_]
  ·refine⟨(ix t.df (aC (n -1)),true),aA (fun _=>AT) ?_,fun _=>AT⟩
   rw[if_neg A_]
   exact aA AT rfl
open Fq
theorem Ev.refl(c:List UInt8):Ev c c:=⟨Nat.le_refl _,fun _ _ h=>h⟩
def XX{b:List UInt8}{a k k':Nat}(h:k<=k'):Ev ((b.drop a).take k) ((b.drop a).take k'):=by
 refine⟨A_,fun j x hx=>?_⟩
 grind [List.getElem?_eq_some_iff,List.length_take,List.getElem?_take_of_lt]
def yD(y:Int×aJ×Int×Int)(u:Nat):Int×aJ×Int×Int:=if y.2.2.2=6 then(0,y.2.1,u,6)else if y.2.2.2=0 then(y.1,y.2.1,0,0)else(0,y.2.1,0,18)
def wm{b:List UInt8}{n:Nat}{g:iQ}(h:GB b n g)(hn:n<=100000000)(hb:b.length<=1500){a:Nat}(ha:a<b.length):
 ∃(u:Nat)(y:Int×aJ×Int×Int),a<=u/\u<=b.length/\¬dQ u g.known/\(∀p:Int,a<=p->p<u->dQ p g.known)/\eX ((b.drop a).take (u -a)) 0 (decide (u=b.length))=some y/\Wd 67 y.2.1.V/\(u=b.length->y.2.2.2≠6)/\kR g a=some (yD y u):=by
 obtain⟨u,u1,u2,u3,u4,u5,u6⟩:=WK h hn AT a 4096 AT AT
 have hm:min 4096 (u -a)=u -a:=AT
 rw[hm]at u6
 have hlen:((b.drop a).take (u -a)).length=u -a:=A_
 have abr:decide (a+(u -a)=b.length)=decide (u=b.length):=A_
 rw[abr]at u6
 obtain⟨y,y1,y2,y3⟩:∃y,eX ((b.drop a).take (u -a)) 0 (decide (u=b.length))=some y/\Wd 67 y.2.1.V/\(u=b.length->y.2.2.2≠6):=by
  by_cases hu:u=b.length
  ·grind [M1,decide_eq_true]
  ·obtain⟨y,y1,y2,_⟩:=Gg (l:=true) (by rw[hlen];omega) (Ev.refl _)
   grind [decide_eq_false,absurd]
 refine⟨u,y,u2,u3,u4,u5,y1,y2,y3,?_⟩
 have ajI:max 0 (a:Int)=(a:Int):=AT
 have ajZ:min g.total (u:Int)=(u:Int):=by rw[h.da];omega
 have step:IM g a 4096=some (.inr (yD y u)):=by
  unfold IM yD
  have u6':jD g (a:Int) 4096=some ((b.drop a).take (u -a),decide (u=b.length)):=u6
  rw[u6',aN]
  dsimp only
  rw[y1,aN,hlen]
  by_cases h6:y.2.2.2=6
  ·have hne:(((u -a:Nat):Int)==4096)=false:=C3
   rw[if_neg (by rw[hne];simp),if_pos Xb7,ajI,u1,aN,ajZ,if_pos h6,h6]
  ·rw[if_neg (by simp[h6]),if_neg Xb7,if_neg h6]
   by_cases h0:y.2.2.2=0
   ·rw[if_neg (by simp[h0]),if_pos h0,h0]
   ·rw[if_pos M_,if_neg h0]
 refine iter_eq (fun s=>s=4096) (fun _=>0) rfl By ?_
 rintro s rfl
 exact .inr step
def QT{b:List UInt8}{n m:Nat}{g w:iQ}(hg:GB b n g)(hw:GB b m w)(eo:∀p:Nat,p<b.length->dQ p w.known)(hn:n<=100000000)(hm:m<=100000000)(hb:b.length<=1500){a:Nat}(ha:a<b.length):
 ∃r r',kR g a=some r/\kR w a=some r'/\Wd 67 r.2.1.V/\(r.2.2.2=6->∃u:Nat,r.2.2.1=u/\u<b.length/\¬dQ u g.known)/\(r.2.2.2≠6->r'=r/\r.2.2.1=0):=by
 obtain⟨u,y,u1,u2,u3,u4,y1,y2,y3,p1⟩:=wm hg hn hb ha
 obtain⟨u',y',v1,v2,v3,v4,z1,z2,z3,p2⟩:=wm hw hm hb ha
 have hu':u'=b.length:=A_
 subst hu'
 refine⟨_,_,p1,p2,?_,fun h6=>?_,fun h6=>?_⟩
 ·grind [yD]
 ·have hy:y.2.2.2=6:=by
   unfold yD at h6
   split at h6
   ·assumption
   ·split at h6
    ·cases h6
    ·cases h6
  refine⟨u,by unfold yD;rw[if_pos hy],?_,u3⟩
  omega
 ·have hy:y.2.2.2≠6:=fun h=>h6 (by unfold yD;rw[if_pos h])
  have e:y'=y:=by
   by_cases hu:u=b.length
   ·grind [Option.some.inj]
   ·have hl:((b.drop a).take (b.length -a)).length<1048576:=A_
    obtain⟨q,q1,_,q2⟩:=Gg (l:=true) hl (XX (b:=b) (a:=a) (show u -a<=b.length -a by omega))
    grind [Option.some.inj,q2]
  subst e
  refine⟨by unfold yD;rw[if_neg hy,if_neg hy],?_⟩
  unfold yD
  rw[if_neg hy]
  split<;>rfl
def WM{b:List UInt8}{n m:Nat}{g w:iQ}(hg:GB b n g)(hw:GB b m w)(eo:∀p:Nat,p<b.length->dQ p w.known)(hn:n<=100000000)(hm:m<=100000000)(hb:b.length<=1500)(t:dq)(k:Int)(ht:t.df.length<=40):
 ∃r r',ma g t k=some r/\ma w t k=some r'/\Wd 67 r.1.V/\(r.2.2=6->r.1=wC/\∃u:Nat,r.2.1=u/\u<b.length/\¬dQ u g.known)/\(r.2.2≠6->r'=r/\r.2.1=0):=by
 obtain⟨p,p1,p2⟩:=WH t k ht
 have hz:Wd 67 wC.V:=Wd.leaf rfl (fun h=>F_)
 cases h2:p.2 with
 |false=>exact⟨_,_,ah p1 (by rw[h2];rfl),ah p1 A_,hz,fun h=>F_,fun _=>⟨rfl,rfl⟩⟩
 |true=>
  obtain⟨a,ha⟩:∃a:Nat,p.1=a:=⟨p.1.toNat,A_⟩
  by_cases hlt:a<b.length
  ·obtain⟨r,r',q1,q2,q3,q4,q5⟩:=QT hg hw eo hn hm hb hlt
   have un:∀{g:iQ}{r:Int×aJ×Int×Int},g.total=b.length->kR g a=some r->ma g t k=some (if(r.2.2.2 !=0)=true then(wC,r.2.2.1,r.2.2.2)else if(r.1 !=k)=true then(wC,0,18)else(r.2.1,0,0)):=fun ht hr=>by
    refine ah p1 ?_
    rw[h2,ha,if_neg By,if_neg A_,hr,aN]
    split
    ·rfl
    ·split<;>rfl
   refine⟨_,_,un hg.da q1,un hw.da q2,?_,fun h6=>?_,fun h6=>?_⟩
   ·split
    ·exact hz
    ·split
     ·exact hz
     ·exact q3
   ·split at h6
    ·rename_i h0
     rw[if_pos h0]
     exact⟨rfl,q4 h6⟩
    ·split at h6<;>cases h6
   ·by_cases h0:(r.2.2.2 !=0)=true
    ·rw[if_pos h0]at h6
     obtain⟨e,e2⟩:=q5 h6
     subst e
     refine⟨rfl,?_⟩
     rw[if_pos h0];exact e2
    ·have h00:=M_
     obtain⟨e,e2⟩:=q5 AT
     subst e
     refine⟨rfl,?_⟩
     rw[if_neg h0]
     split<;>rfl
  ·have un:∀{g:iQ},g.total=b.length->ma g t k=some (wC,0,18):=fun ht=>by
    refine ah p1 ?_
    rw[h2,if_neg By,if_pos A_]
   exact⟨_,_,un hg.da,un hw.da,hz,fun h=>F_,fun _=>⟨rfl,rfl⟩⟩
def Kd:∀(n:Nat)(v:aa)(fuel:Nat),Wd n v->n<=fuel->eQ fuel v v=some 0
 |0,_,_,h,_=>h.elim
 |n+1,v,0,_,h=>by omega
 |n+1,v,fuel+1,h,hf=>by
  obtain⟨h1,h2,_⟩:=h
  have b0:Op.bytesLess v.S.b v.S.b=false:=Ew _
  have lp:iter (fun(k4:Int)=>
   if(decide (k4<v.L.length))&&(decide (k4<v.L.length))then
    a8 (0<=k4/\k4<v.L.length)<|
    a8 (0<=k4/\k4<v.L.length)<|
    aQ (eQ fuel (ix v.L k4) (ix v.L k4)) fun r8=>
    if r8 !=0 then
     some (.inr (.inr r8))
    else
     some (.inl (aC (k4+1)))
   else
    some (.inr (.inl ():Unit⊕Int))) 0=some (.inl ()):=by
   refine oP v.L.length AT (fun k hk=>?_) (al BY rfl)
   have hx:=gr hk
   exact aM A_ (aA ⟨BY,AT⟩ (aA ⟨BY,AT⟩ (ah (by rw[hx];exact Kd n _ fuel (h2 _ (List.getElem_mem hk)) AT) (al BY rfl))))
  refine al A_ (al BY (dT (rR lp rfl) ?_))
  exact al BY (al BY rfl)
def Q6{v:aa}(h:Wd 67 v):mz v v=some true:=by
 have hb:67<=Wc:=By
 exact ah (Kd 67 v Wc h hb) rfl
end Go.AB
end
section
set_option maxRecDepth 4000
namespace Go.AB
open Go
def Le{α:Type}(G:α->Prop)(o o':Option α):Prop:=∀x,o=some x->G x->o'=some x
theorem Le.same{α:Type}{G:α->Prop}{o:Option α}:Le G o o:=fun _ h _=>h
theorem Le.aQ{α β:Type}{G:β->Prop}(H:α->Prop){o o':Option α}{F F':α->Option β}(h:Le H o o')(k:∀x,H x->Le G (F x) (F' x))(n:∀x z,¬H x->F x=some z->¬G z):Le G (aQ o F) (aQ o' F'):=by
 intro z hz gz
 cases e:o with
 |none=>rw[e]at hz;cases hz
 |some x=>
  rw[e]at hz
  by_cases hx:H x
  ·rw[h x e hx];exact k x hx z hz gz
  ·exact absurd gz (n x z hx hz)
def Le.all{α β:Type}{G:β->Prop}{o o':Option α}{F F':α->Option β}(h:Le (fun _=>True) o o')(k:∀x,Le G (F x) (F' x)):Le G (Go.AB.aQ o F) (Go.AB.aQ o' F'):=h.aQ _ (fun x _=>k x) fun _ _ h=>absurd trivial h
def Le.aaR{X Y β:Type}{G:β->Prop}(H:X⊕Y->Prop){o o':Option (X⊕Y)}{A A':X->Option β}{B B':Y->Option β}(h:Le H o o')(a:∀x,H (.inl x)->Le G (A x) (A' x))(b:∀y,H (.inr y)->Le G (B y) (B' y))(na:∀x z,¬H (.inl x)->A x=some z->¬G z)(nb:∀y z,¬H (.inr y)->B y=some z->¬G z):Le G (nE o A B) (nE o' A' B'):=by
 intro z hz gz
 cases e:o with
 |none=>rw[e]at hz;cases hz
 |some x=>
  rw[e]at hz
  by_cases hx:H x
  ·rw[h x e hx]
   cases x with
   |inl x=>exact a x hx z hz gz
   |inr y=>exact b y hx z hz gz
  ·cases x with
   |inl x=>exact absurd gz (na x z hx hz)
   |inr y=>exact absurd gz (nb y z hx hz)
def Le.jns{X Y β:Type}{G:β->Prop}(H:X⊕Y->Prop){o o':Option (X⊕Y)}{A A':X->Option β}{B B':Y->Option β}(h:Le H o o')(a:∀x,H (.inl x)->Le G (A x) (A' x))(b:∀y,H (.inr y)->Le G (B y) (B' y))(na:∀x z,¬H (.inl x)->A x=some z->¬G z)(nb:∀y z,¬H (.inr y)->B y=some z->¬G z):Le G (yx o A B) (yx o' A' B'):=Le.aaR H h a b na nb
theorem Le.a8{α:Type}{G:α->Prop}{c:Prop}[Decidable c]{o o':Option α}(h:Le G o o'):Le G (a8 c o) (a8 c o'):=by grind [Go.AB.a8,Le.same]
def Le.ite{α:Type}{G:α->Prop}{c:Prop}[Decidable c]{a a' b b':Option α}(h:Le G a a')(k:Le G b b'):Le G (if c then a else b) (if c then a' else b'):=A_
theorem Le.iter{S O:Type}(G:O->Prop){body Zd:S->Option (S⊕O)}{s:S}(h:∀s,Le (fun x=>∀o,x=.inr o->G o) (body s) (Zd s)):Le G (iter body s) (iter Zd s):=by
 unfold Go.AB.iter
 generalize 18446744073709551616=n
 induction n generalizing s with
 |zero=>exact Le.same
 |succ n ih=>
  intro o ho go
  unfold cC at ho⊢
  cases e:body s with
  |none=>rw[e]at ho;cases ho
  |some x=>
   rw[e]at ho
   cases x with
   |inl t=>rw[h s _ e (fun o h=>A_)];exact ih o ho go
   |inr p=>injection ho with ho;subst ho;rw[h s _ e (fun o h=>A_)]
def Tot(Bad:Int->Prop)(f:lA):Prop:=∀n,∃r,jm f n=some r/\Wd 67 r.1.V/\(r.2.2=6->Bad r.2.1)/\(r.2.2≠6->r.2.1=0)
structure V4(f f':lA):Prop where
 root:f'.PB=f.PB
 get:∀n,Le (fun r=>r.2.2≠6) (jm f n) (jm f' n)
def abJ{α:Type}[aP α]{v:List α}{i:Int}(h0:0<=i)(h:i<v.length):ix v i∈v:=by
 obtain⟨k,rfl⟩:=Int.eq_ofNat_of_zero_le h0
 grind [gr,List.getElem_mem]
def zy{v:aa}{n:Nat}(h:Wd (n+2) v)(k:aO):∃r,cM v k=some r/\Wd (n+1) r.1:=by
 have hl:=h.1
 obtain⟨i,h1,h2,h3⟩:=Fq.yb v k AT
 refine eK (fun i=>-1<=i/\i<v.L.length) ⟨i,h1,h2,h3⟩ ?_
 rintro i ⟨h2,h3⟩
 by_cases h0:i<0
 ·exact⟨_,aM A_ rfl,Wd.leaf rfl (fun h=>A_)⟩
 have e:aC (i+1)=i+1:=an AT AT
 rw[e]
 by_cases h4:i+1=v.L.length
 ·exact⟨_,al A_ (aM A_ rfl),Wd.leaf rfl (fun h=>A_)⟩
 ·exact⟨_,al A_ (al A_ (aA ⟨AT,AT⟩ rfl)),h.2.1 _ (abJ AT AT)⟩
def Gv(n:Nat)(v:aa):Prop:=v.L.length<=n/\(∀x∈v.L,Wd 66 x)/\(v.Kind=8->1<=v.N/\v.N<=4096)
theorem Gv.wd{n:Nat}{v:aa}(h:Gv n v)(hn:n<=1000000):Wd 67 v:=⟨by have:=h.1;omega,h.2.1,h.2.2⟩
def BW{n:Nat}{v:aa}(h:Gv n v)(hn:n<=1048577)(k:aO):∃r,fg v k=some r/\Gv n r:=by
 have hl:=h.1
 have hr:room=140737488355328:=rfl
 obtain⟨i,h1,h2,h3⟩:=Fq.yb v k AT
 refine eK (fun i=>-1<=i/\i<v.L.length) ⟨i,h1,h2,h3⟩ ?_
 rintro i ⟨h2,h3⟩
 by_cases h0:i<0
 ·exact⟨_,aM A_ rfl,h⟩
 ·refine⟨_,al A_ (aA ⟨AT,AT,AT⟩ rfl),?_,fun x hx=>?_,h.2.2⟩
  ·grind [List.length_append,List.length_take,List.length_drop]
  ·rcases List.mem_append.1 hx with hx|hx
   ·exact h.2.1 x (List.mem_of_mem_take hx)
   ·exact h.2.1 x (List.mem_of_mem_drop hx)
def UI(v:aa)(k:aO)(h:v.L.length<1048578):∃r,pZ v k=some r/\0<=r/\r<=v.L.length:=by
 refine dw (fun i=>0<=i) (fun i=>((v.L.length:Int) -i).toNat) _ (Int.le_refl 0) AT fun i hi=>?_
 by_cases hl:i<v.L.length
 ·rw[if_pos A_,bk ⟨hi,hl⟩,bk (fun _=>⟨hi,hl⟩)]
  split
  ·exact⟨_,rfl,hi,AT⟩
  ·grind [aC,an]
 ·rw[if_neg A_]
  exact⟨_,rfl,BY,BY⟩
def acD{n:Nat}{v x:aa}(h:Gv n v)(hx:Wd 66 x)(hn:n<=1000000)(k:aO):∃r,lu v k x=some r/\Gv (n+2) r:=by
 have hl:=h.1
 have hr:room=140737488355328:=rfl
 by_cases h7:(v.Kind !=7)=true
 ·exact⟨_,aM h7 rfl,AT,h.2⟩
 obtain⟨i,h1,h2,h3⟩:=Fq.yb v k AT
 by_cases h0:i>=0
 ·refine⟨_,al h7 (aA AT (ah h1 (aM A_ (aA ⟨AT,AT,AT⟩ rfl)))),?_,fun y hy=>?_,h.2.2⟩
  ·grind [List.length_append,List.length_take,List.length_drop,List.length_cons,List.length_nil]
  ·rcases List.mem_append.1 hy with hy|hy
   ·rcases List.mem_append.1 hy with hy|hy
    ·exact h.2.1 y (List.mem_of_mem_take hy)
    grind [List.mem_singleton]
   ·exact h.2.1 y (List.mem_of_mem_drop hy)
 ·obtain⟨j,j1,j2,j3⟩:=UI v k AT
  refine⟨_,al h7 (aA AT (ah h1 (al A_ (ah j1 (aA ⟨AT,AT,AT⟩ rfl))))),?_,fun y hy=>?_,h.2.2⟩
  ·grind [List.length_append,List.length_take,List.length_drop,List.length_cons,List.length_nil]
  ·rcases List.mem_append.1 hy with hy|hy
   ·rcases List.mem_append.1 hy with hy|hy
    ·exact h.2.1 y (List.mem_of_mem_take hy)
    ·rcases List.mem_cons.1 hy with hy|hy
     ·rw[hy];exact Wd.leaf rfl (fun h=>A_)
     grind [List.mem_singleton]
   ·exact h.2.1 y (List.mem_of_mem_drop hy)
abbrev zLf:bC:=bC.mk 0 ([]:List Int) (aa.mk 0 0 (aO.mk []) ([]:List aa))
def Ee{o:aJ}(h:Wd 67 o.V)(k:aO):∃r,jf o k=some r/\True:=by
 obtain⟨r,h1,_⟩:=zy h (aO.mk [84,121,112,101])
 exact⟨_,ah h1 rfl,trivial⟩
def V6{o:aJ}(h:Wd 67 o.V):∃r,rD o=some r/\True:=by
 refine eK _ (zy h _) fun r1 _=>eK _ (Ee h _) fun r2 _=>?_
 split<;>exact⟨_,rfl,trivial⟩
def Nd(x:bD):Prop:=Wd 67 x.v_/\x.de.length<1048577/\(x.de.length:Int)<=x.eh/\x.eh<=2048
def GN{n:Int}{o:aJ}(h:Wd 67 o.V):∃r,jS n o=some r/\(r.2=true->Nd r.1):=by
 have hr:room=140737488355328:=rfl
 refine eK _ (zy h _) fun r1 w1=>eK _ (zy h _) fun r2 _=>eK _ (Ee h _) fun r3 _=>?_
 have hl:=w1.1
 split
 ·exact⟨_,rfl,fun h=>F_⟩
 refine oH (eY (fun x=>x.v_=o.V/\x.de.length<=r1.1.L.length) (fun y=>y.2=false)) (x4 (eY (fun x=>x.v_=o.V/\x.de.length<=r1.1.L.length) (fun y=>y.2=false)) ?_ ?_) ?_
 ·refine dw (fun(q:bD×Int)=>0<=q.2/\q.2<=r1.1.L.length/\q.1.v_=o.V/\q.1.de.length=q.2) (fun q=>(r1.1.L.length -q.2).toNat) _ ⟨Int.le_refl 0,BY,rfl,rfl⟩ AT ?_
  rintro⟨x,t⟩ ⟨q1,q2,q3,q4⟩
  dsimp at q1 q2 q3 q4⊢
  by_cases hl:t<r1.1.L.length
  ·rw[if_pos A_,bk ⟨q1,hl⟩]
   split
   ·exact⟨_,rfl,rfl⟩
   ·rw[bk A_,an AT AT]
    refine⟨_,rfl,⟨AT,A_,q3,A_⟩,?_⟩
    omega
  ·rw[if_neg A_]
   exact⟨_,rfl,q3,AT⟩
 ·rintro(x|y) hz
  ·exact⟨_,rfl,hz⟩
  ·exact⟨_,rfl,hz⟩
 ·rintro(x|y) hz
  ·refine⟨_,rfl,fun hh=>?_⟩
   simp[Bool.and_eq_true,decide_eq_true_eq]at hh
   exact⟨H_,A_,hh.1,hh.2⟩
  ·refine⟨_,rfl,fun hh=>?_⟩
   have:y.2=false:=hz
   rw[hh]at this;cases this
def En(Bad:Int->Prop)(w e:Int):Prop:=(e=6->Bad w)/\(e≠6->w=0)
def RO{Bad:Int->Prop}{f:lA}(hf:Tot Bad f)(n:Int):∃r,kC f n=some r/\En Bad r.2.1 r.2.2/\(r.2.2=0->Nd r.1):=by
 refine eK _ (hf n) fun r⟨h1,h2,h3⟩=>?_
 by_cases h0:r.2.2=0
 ·rw[if_neg A_]
  refine eK _ (GN h1) fun r2 w2=>?_
  split
  ·exact⟨_,rfl,⟨fun h=>A_,fun _=>rfl⟩,fun h=>A_⟩
  ·rename_i hh
   exact⟨_,rfl,⟨fun h=>A_,fun _=>rfl⟩,fun _=>w2 A_⟩
 ·exact⟨_,aM A_ rfl,⟨h2,h3⟩,fun h=>absurd h h0⟩
def adr{Bad:Int->Prop}{f:lA}(hf:Tot Bad f):∃r,kE f=some r/\En Bad r.2.1 r.2.2/\(r.2.2=0->Nd r.1):=by
 refine eK (fun _=>True) ⟨_,rfl,trivial⟩ fun r1 _=>eK _ (hf r1) fun r⟨h1,h2,h3⟩=>?_
 by_cases h0:r.2.2=0
 ·rw[if_neg A_]
  refine eK _ (V6 h1) fun r2 _=>?_
  split
  ·exact⟨_,rfl,⟨fun h=>A_,fun _=>rfl⟩,fun h=>A_⟩
  ·exact eK _ (RO hf r2.1) fun r3 w3=>⟨_,rfl,w3⟩
 ·exact⟨_,aM A_ rfl,⟨h2,h3⟩,fun h=>absurd h h0⟩
def WN{n:Nat}{g v:aa}(hg:Gv n g)(hn:n<=1000)(hv:Wd 67 v):∃r,rE g v=some r/\Gv (n+8) r:=by
 refine CI _ (eK (fun r=>r.length=4) ⟨_,rfl,rfl⟩ fun r3 h4=>dw (fun(q:aa×Int)=>∃k:Nat,q.2=k/\k<=4/\Gv (n+2*k) q.1) (fun q=>(4 -q.2).toNat) _ ⟨0,rfl,BY,hg⟩ BY ?_) fun r w=>⟨_,rfl,w⟩
 rintro⟨x,t⟩ ⟨k,q1,q2,q3⟩
 dsimp at q1 q3⊢
 subst q1
 by_cases hl:k<(r3.length:Int)
 ·rw[if_pos A_]
  have hw:aC (k+1)=k+1:=an AT AT
  refine CI (Gv (n+2*(k+1))) ?_ fun z hz=>⟨_,rfl,⟨k+1,hw,AT,hz⟩,AT⟩
  rw[bk ⟨BY,hl⟩]
  refine eK _ (zy hv _) fun r w=>?_
  split
  ·exact eK _ (acD q3 w AT _) fun z hz=>⟨_,rfl,hz⟩
  ·exact⟨_,rfl,by have:=q3.1;omega,q3.2⟩
 ·rw[if_neg A_]
  exact⟨_,rfl,by have:=q3.1;omega,q3.2⟩
def Xu{n:Nat}{k:Int}{p g:aa}{l:List Int}(hp:Wd 67 p)(hg:Gv n g)(hn:n<=1000):∃r,rF k p l g=some r/\Gv n r.ba/\r.Path=l:=by
 refine CI (Gv n) (eK (fun r=>r.length=4) ⟨_,rfl,rfl⟩ fun r3 h4=>dw (fun q=>0<=q.2/\Gv n q.1) (fun q=>(4 -q.2).toNat) _ ⟨Int.le_refl 0,hg⟩ BY ?_) fun r w=>⟨_,rfl,w,rfl⟩
 rintro⟨x,t⟩ ⟨q1,q3⟩
 dsimp at q1 q3⊢
 by_cases hl:t<r3.length
 ·rw[if_pos A_]
  have hw:aC (t+1)=t+1:=an AT AT
  refine CI (Gv n) ?_ fun z hz=>⟨_,rfl,⟨AT,hz⟩,AT⟩
  rw[bk ⟨q1,hl⟩]
  refine eK _ (zy hp _) fun r w=>?_
  split
  ·exact eK _ (BW q3 AT _) fun z hz=>⟨_,rfl,hz⟩
  ·exact⟨_,rfl,q3⟩
 ·rw[if_neg A_]
  exact⟨_,rfl,q3⟩
def PZ(Bad:Int->Prop)(z:bC×Int×Int):Prop:=En Bad z.2.1 z.2.2/\(z.2.2=6->z.1=zLf)/\Wd 67 z.1.ba/\z.1.Path.length<=64
def V3{Bad:Int->Prop}{f:lA}(hf:Tot Bad f)(p:Int):∃z,iE f p=some z/\PZ Bad z:=by
 have hr:room=140737488355328:=rfl
 have hz:∀{w e:Int},En Bad w e->PZ Bad (zLf,w,e):=fun h=>⟨h,fun _=>rfl,Wd.leaf rfl (fun h=>F_),Nat.zero_le _⟩
 have h0:∀{e:Int},e≠6->PZ Bad (zLf,0,e):=fun h=>hz ⟨fun h2=>absurd h2 h,fun _=>rfl⟩
 refine eK _ (adr hf) fun r1⟨w1,w2⟩=>?_
 by_cases c:r1.2.2=0
 rotate_left
 ·exact⟨_,aM (by simpa using c) rfl,hz w1⟩
 rw[if_neg (by simpa using c)]
 have N:=w2 c
 by_cases cp:p<0\/p>=r1.1.eh
 ·exact⟨_,aM (by simpa using cp) rfl,h0 By⟩
 rw[if_neg (by simpa using cp)]
 refine eK (Gv 0) (CI (Gv 0) ⟨⟨7,0,⟨[]⟩,[]⟩,iter_eq (fun q=>q=(⟨7,0,⟨[]⟩,[]⟩,0)) (fun _=>0) rfl By fun s hs=>.inr (by rw[hs];rfl),Nat.le_refl _,fun x hx=>absurd hx List.not_mem_nil,fun h=>F_⟩ fun r w=>⟨_,rfl,w⟩) fun r2 G=>?_
 refine oH (eY (fun _=>True) (fun y=>PZ Bad y)) (x4 (eY (fun _=>True) (fun y=>PZ Bad y)) ?_ ?_) ?_
 ·refine dw (fun(q:Int×bD×List Int×aa×Int)=>∃k:Nat,q.2.2.2.2=k/\k<=64/\0<=q.1/\q.1<q.2.1.eh/\Nd q.2.1/\q.2.2.1.length=k/\Gv (8*k) q.2.2.2.1) (fun q=>(64 -q.2.2.2.2).toNat) _ ⟨0,rfl,AT,by show 0<=p;omega,by show p<r1.1.eh;omega,N,rfl,G⟩ (by show(64 -0:Int).toNat<_;decide) ?_
  rintro⟨p,x,l,g,t⟩ ⟨k,q1,q2,q3,q4,q5,q6,q7⟩
  dsimp only at q1 q3 q4 q5 q6 q7⊢
  subst q1
  by_cases hl:(k:Int)<64
  rotate_left
  ·rw[if_neg Xb8];exact⟨_,rfl,trivial⟩
  rw[if_pos Xb8]
  have hw:aC ((k:Int)+1)=(k:Int)+1:=an AT AT
  refine oH (eY (fun(z:Int×bD×List Int×aa)=>0<=z.1/\z.1<z.2.1.eh/\Nd z.2.1/\z.2.2.1.length=k+1/\Gv (8*(k+1)) z.2.2.2) (fun y=>PZ Bad y)) ?_ ?_
  rotate_left
  ·rintro(z|y) hz
   ·exact⟨_,rfl,⟨k+1,hw,AT,hz⟩,by grind [aC]⟩
   ·exact⟨_,rfl,hz⟩
  rw[bk (by grind [List.length_cons,List.length_nil])]
  obtain⟨n1,n2,n3,n4⟩:=q5
  have hlen:(l++[x.n_]).length=k+1:=A_
  refine eK _ (WN q7 AT n1) fun r26 G26=>?_
  have G26:Gv (8*(k+1)) r26:=G26
  by_cases ck:x.eh=(x.de.length:Int)
  ·rw[if_pos (by simpa using ck),bk ⟨q3,AT⟩]
   refine eK _ (hf _) fun r27⟨a1,a2,a3⟩=>?_
   by_cases c7:r27.2.2=0
   rotate_left
   ·exact⟨_,aM (by simpa using c7) rfl,hz ⟨a2,a3⟩⟩
   rw[if_neg (by simpa using c7)]
   refine eK _ (eK _ (Ee a1 _) fun r _=>⟨_,rfl,trivial⟩:∃r,rC r27.1=some r/\True) fun r28 _=>?_
   split
   ·exact eK _ (Xu (k:=ix x.de p) (l:=l++[x.n_]) a1 G26 AT) fun r29 w29=>⟨_,rfl,⟨fun h=>F_,fun _=>rfl⟩,fun h=>F_,w29.1.wd AT,by show r29.Path.length<=64;rw[w29.2];omega⟩
   ·refine eK _ (GN a1) fun r30 w30=>?_
    split
    ·exact⟨_,rfl,h0 By⟩
    ·rename_i hh
     simp only[Bool.or_eq_true,Bool.not_eq_true',bne_iff_ne,ne_eq,not_or,Bool.not_eq_false,Decidable.not_not]at hh
     exact⟨_,rfl,Int.le_refl 0,by show(0:Int)<r30.1.eh;omega,w30 hh.1,hlen,G26⟩
  ·rw[if_neg (by simpa using ck)]
   refine oH (eY (fun _=>True) (eY (fun(z:Int×bD)=>0<=z.1/\z.1<z.2.eh/\Nd z.2) (fun y=>En Bad y.1 y.2))) (x4 (eY (fun(z:Int×bD)=>0<=z.1/\z.1<z.2.eh/\Nd z.2) (eY (fun _=>True) (fun y=>En Bad y.1 y.2))) ?_ ?_) ?_
   ·refine dw (fun(q:Int×Int)=>0<=q.2/\0<=q.1/\q.1<2048) (fun q=>((x.de.length:Int) -q.2).toNat) _ ⟨Int.le_refl 0,q3,by show p<2048;omega⟩ (by show((x.de.length:Int) -0).toNat<_;omega) ?_
    rintro⟨p,t⟩ ⟨b1,b2,b3⟩
    dsimp only at b1 b2 b3⊢
    by_cases ht:t<(x.de.length:Int)
    rotate_left
    ·rw[if_neg (by simpa using ht)];exact⟨_,rfl,trivial⟩
    rw[if_pos (by simpa using ht),bk ⟨b1,ht⟩]
    obtain⟨r55,e55,w55,m55⟩:=RO hf (ix x.de t)
    rw[e55,aN]
    by_cases c5:r55.2.2=0
    rotate_left
    ·rw[if_pos (by simpa using c5)];exact⟨_,rfl,w55⟩
    rw[if_neg (by simpa using c5)]
    have M:=m55 c5
    by_cases cc:p<r55.1.eh
    ·rw[if_pos (by simpa using cc)];exact⟨_,rfl,b2,cc,M⟩
    ·rw[if_neg (by simpa using cc)]
     have M3:=M.2.2
     rw[an (n:=p -r55.1.eh) AT AT,an (n:=t+1) AT AT]
     refine⟨_,rfl,⟨by show 0<=t+1;omega,by show 0<=p -r55.1.eh;omega,by show p -r55.1.eh<2048;omega⟩,?_⟩
     omega
   ·rintro(z|(u|y)) hz
    ·exact⟨_,rfl,hz⟩
    ·exact⟨_,rfl,trivial⟩
    ·exact⟨_,rfl,hz⟩
   ·rintro(u|(z|y)) hz2
    ·exact⟨_,rfl,h0 By⟩
    ·exact⟨_,rfl,hz2.1,hz2.2.1,hz2.2.2,hlen,G26⟩
    ·exact⟨_,rfl,hz hz2⟩
 ·rintro(z|y) hz2
  ·exact⟨_,rfl,trivial⟩
  ·exact⟨_,rfl,hz2⟩
 ·rintro(z|y) hz2
  ·exact⟨_,rfl,h0 By⟩
  ·exact⟨_,rfl,hz2⟩
section
variable{f f':lA}
def RN(h:V4 f f')(n:Int):Le (fun r=>r.2.2≠6) (kC f n) (kC f' n):=by
 refine Le.aQ _ (h.get n) (fun x _=>Le.same) fun x z hx hz hg=>?_
 have hx:=Nl
 rw[if_pos A_]at hz
 injection hz with hz;subst hz;exact hg hx
def adq(h:V4 f f'):Le (fun r=>r.2.2≠6) (kE f) (kE f'):=by
 refine Le.all (fun x hx _=>by rw[<-hx];exact congrArg some h.root) fun r1=>Le.aQ _ (h.get r1) (fun x _=>Le.ite Le.same (Le.all Le.same fun r3=>Le.ite Le.same (Le.aQ _ (RN h _) (fun x _=>Le.same) fun x z hx hz hg=>?_))) fun x z hx hz hg=>?_
 ·have hx:=Nl
  injection hz with hz;subst hz;exact hg hx
 ·have hx:=Nl
  rw[if_pos A_]at hz
  injection hz with hz;subst hz;exact hg hx
def V2(h:V4 f f')(p:Int):Le (fun r=>r.2.2≠6) (iE f p) (iE f' p):=by
 refine Le.aQ _ (adq h) (fun r1 _=>Le.ite Le.same (Le.ite Le.same (Le.all Le.same fun r2=>?_))) fun x z hx hz hg=>?_
 rotate_left
 ·have hx:=Nl
  rw[if_pos A_]at hz
  injection hz with hz;subst hz;exact hg hx
 refine Le.jns (eY (fun _=>True) (fun y=>y.2.2≠6)) (Le.aaR (eY (fun _=>True) (fun y=>y.2.2≠6)) (Le.iter _ ?_) (fun _ _=>Le.same) (fun _ _=>Le.same) (fun _ _ hx=>absurd trivial hx) ?_) (fun _ _=>Le.same) (fun _ _=>Le.same) (fun _ _ hx=>absurd trivial hx) ?_
 rotate_left
 ·rintro y z hy hz hg
  injection hz with hz;subst hz;exact hy hg
 ·rintro y z hy hz hg
  injection hz with hz;subst hz;exact hy hg
 rintro⟨p,x,l,g,t⟩
 refine Le.ite (Le.jns (eY (fun _=>True) (fun y=>y.2.2≠6)) (Le.a8 (Le.all Le.same fun r26=>Le.ite (Le.a8 (Le.aQ _ (h.get _) (fun _ _=>Le.same) ?_)) ?_)) (fun _ _=>Le.same) (fun _ _=>Le.same) (fun _ _ hx=>absurd trivial hx) ?_) Le.same
 ·intro x z hx hz hg
  have hx:=Nl
  rw[if_pos A_]at hz
  injection hz with hz;subst hz;exact hg hx
 ·refine Le.jns (eY (fun _=>True) (eY (fun _=>True) (fun y=>y.2≠6))) (Le.aaR (eY (fun _=>True) (eY (fun _=>True) (fun y=>y.2≠6))) (Le.iter _ ?_) (fun _ _=>Le.same) (fun _ _=>Le.same) (fun _ _ hx=>absurd trivial hx) ?_) (fun _ _=>Le.same) (fun _ _=>Le.same) (fun _ _ hx=>absurd trivial hx) ?_
  ·rintro⟨p,t⟩
   refine Le.ite (Le.a8 (Le.aQ _ (RN h _) (fun _ _=>Le.same) ?_)) Le.same
   intro x z hx hz hg
   have hx:=Nl
   rw[if_pos A_]at hz
   injection hz with hz;subst hz;exact hg _ rfl hx
  ·rintro(u|y) z hy hz hg
   ·exact hy trivial
   ·injection hz with hz;subst hz;exact hy hg
  ·rintro(u|y) z hy hz hg
   ·exact hy trivial
   ·injection hz with hz;subst hz;exact hy hg
 ·rintro y z hy hz hg
  injection hz with hz;subst hz;exact hg _ rfl (Decidable.not_not.1 hy)
end
def ac3(x:jQ)(hs:mz x.ba x.ba=some true)(hl:x.Path.length<=64):kY x x=some true:=by
 unfold kY
 refine ah (a:=true) (by rw[hs];simp[jA]) ?_
 refine al BY (dT (z:=.inl ()) (rR (z:=.inl ()) ?_ rfl) rfl)
 refine oP x.Path.length AT (fun k hk=>?_) (al BY rfl)
 exact aM C3 (aA ⟨AT,AT⟩ (aA ⟨AT,AT⟩ (al BY rfl)))
end Go.AB
end
section
set_option maxRecDepth 4000
namespace Go.AB
open Go
attribute[-go_sem] Nat.add_zero mO cF
def UD{b:List UInt8}{a c:Int}(h0:0<=a)(h1:a<=c)(h2:c<=b.length):((part b a c).length=(c -a).toNat)/\∀i,i<(part b a c).length->(part b a c)[i]? =b[a.toNat+i]? :=by grind [part,List.length_take,List.length_drop,List.getElem?_take_of_lt]
def Rf{b:List UInt8}{l:List aj}(hb:b.length<=1500)(hl:l.length<=30):
 ∃g,iter (ve b l) (0,⟨b.length,[],fun _=>none⟩)=some g/\∃k,k<=30/\GB b k g:=by
 refine dw (body:=ve b l) (fun q=>∃k:Nat,q.1=k/\k<=l.length/\∃j,j<=k/\GB b j q.2) (fun q=>l.length -q.1.toNat) _ ⟨0,rfl,Nat.zero_le _,0,Nat.le_refl _,SR b⟩ A_ ?_
 rintro⟨k,g⟩ ⟨k,rfl,hk,j,hj,G⟩
 unfold ve
 dsimp
 by_cases hc:k<l.length
 ·rw[if_pos A_]
  generalize ix l k=y
  by_cases hy:(((decide (y.aS>=0))&&(decide (y.aS<=y.To)))&&(decide (y.To<=b.length)))=true
  ·rw[if_pos hy]
   have hy2:0<=y.aS/\y.aS<=y.To/\y.To<=b.length:=A_
   obtain⟨p1,p2⟩:=UD hy2.1 hy2.2.1 hy2.2.2
   obtain⟨g',q1,q2,_⟩:=SS G AT AT y.aS.toNat (part b y.aS y.To) AT p2
   have e:(y.aS.toNat:Int)=y.aS:=AT
   rw[e]at q1
   refine⟨_,aA ⟨AT,AT⟩ (aA hy2 (ah q1 (aA (by rw[q2.da];omega) rfl))),⟨k+1,an AT AT,AT,j+1,AT,q2⟩,?_⟩
   grind [aC,an]
  ·rw[if_neg hy]
   refine⟨_,aA ⟨AT,AT⟩ rfl,⟨k+1,an AT AT,AT,j,AT,G⟩,?_⟩
   grind [aC,an]
 ·rw[if_neg A_]
  exact⟨_,rfl,j,AT,G⟩
def Bd(b:List UInt8)(g:iQ)(u:Int):Prop:=∃v:Nat,u=v/\v<b.length/\¬dQ v g.known
theorem Bd.ok{b:List UInt8}{k:Nat}{g:iQ}(G:GB b k g)(hk:k<=30)(hb:b.length<=1500){u0:Int}(h:Bd b g u0):0<=u0/\u0<b.length/\∃u,lC g.known (max 0 u0)=some u/\min g.total u=u0:=by
 obtain⟨v,v1,v2,v3⟩:=h
 obtain⟨u,u1,u2,u3,u4⟩:=LY (a:=max 0 u0) G.form (by have:=G.len;omega)
 have hm:max 0 u0=v:=AT
 have:u=v:=A_
 exact⟨AT,AT,u,u1,by rw[G.da];omega⟩
def Yw{b:List UInt8}{l:List aj}{t:dq}{p:Int}(hb:b.length<=1500)(hl:l.length<=30)(ht:t.df.length<=40):∃g w x,Mq b l t p g w x:=by
 obtain⟨g,hs,k,hk,G⟩:=Rf hb hl
 obtain⟨w,w1,W,w2⟩:=SS (SR b) BY AT 0 b BY fun i hi=>BY
 have two:=fun n=>WM G W (fun p hp=>(w2 p).2 (.inr ⟨BY,AT⟩)) AT BY hb t n ht
 have da:∀F,Tot (Bd b g) (Lp F g t):=fun F n=>by
  obtain⟨r,r',h1,h2,h3,h4,h5⟩:=two n
  exact⟨r,h1,h3,fun h=>(h4 h).2,fun h=>(h5 h).2⟩
 have more:∀F F2,V4 (Lp F g t) (Lp F2 w t):=fun F F2=>⟨rfl,fun n x hx hg=>by
  obtain⟨r,r',h1,h2,h3,h4,h5⟩:=two n
  obtain rfl:x=r:=Option.some.inj (hx.symm.trans h1)
  rw[(h5 hg).1]at h2
  exact h2⟩
 refine⟨g,w,0,hs,by rw[G.da];omega,w1,by rw[W.da];omega,fun F=>?_⟩
 obtain⟨z,z1,⟨e1,e2⟩,z2,z3,z4⟩:=V3 (da F) p
 exact⟨z,z1,fun h6=>⟨z2 h6,(e1 h6).ok G hk hb⟩,fun h6=>⟨e2 h6,ac3 _ (Q6 z3) z4,fun F2=>V2 (more F F2) p z z1 h6⟩⟩
def tV(b:List UInt8)(l:List aj)(t:jP)(n:Int)(hb:b.length<=1500)(hl:l.length<=30)(ht:t.df.length<=40):∃g w x,Mq b l ⟨t.df,t.nA⟩ n g w x:=Yw hb hl ht
end Go.AB
end
section
namespace Go.AB
open Go Go.RowKit Go.ChangeShapes Go.WideShapes
def wH(N:Nat)(w:World)(b:Nat):Nat:=if b<w.heap.size then N else 0
def Ns{P:Program}{w:World}{f:FuncId}{args:List AV}{vs:Array Value}(N:Nat)(hf:FN P f args B6 fun rs _=>rs=[.bool true])(ha:lY w (wH N w) args vs):
 Calls P f vs w fun e w'=>e=.returned (.bool true)/\Below w.heap.size w w':=by
 refine(hf ⟨wH N w,fun _=>.none⟩ w vs ⟨fun _ _=>rfl,fun b hb=>?_⟩ (fun b=>.inl rfl) (fun b o h=>F_) ha).mono fun e w'⟨v,rs,s',G',he,hq,_,_,hr,hp⟩=>?_
 ·unfold wH
  grind
 ·subst hq
  refine⟨?_,⟨hp.os,hp.tape,hp.output,hp.size,fun b hb=>hp.frame b hb (.inr rfl)⟩⟩
  rw[he]
  have:=VR.iu hr.1
  rw[this]
def Hw(w:World)(R:Nat->Nat)(as1:List AV)(cs:List Value):Prop:=cs.length=as1.length/\∀(j:Nat)(a:AV)(v:Value),as1[j]? =some a->cs[j]? =some v->VR w R a v
def Hw.one{w:World}{R:Nat->Nat}{a:AV}{v:Value}(h:VR w R a v):Hw w R [a] [v]:=by
 refine⟨rfl,fun j a' v' h1 h2=>?_⟩
 grind
theorem Hw.append{w:World}{R:Nat->Nat}{as1 bs:List AV}{cs ds:List Value}(h:Hw w R as1 cs)(k:Hw w R bs ds):Hw w R (as1++bs) (cs++ds):=by
 refine⟨by rw[List.length_append,List.length_append,h.1,k.1],fun j a v h1 h2=>?_⟩
 rcases Nat.lt_or_ge j as1.length with hj|hj
 ·rw[List.getElem?_append_left hj]at h1
  rw[List.getElem?_append_left (by rw[h.1];exact hj)]at h2
  exact h.2 j a v h1 h2
 ·rw[List.getElem?_append_right hj]at h1
  rw[List.getElem?_append_right (by rw[h.1];exact hj),h.1]at h2
  exact k.2 _ a v h1 h2
def kM(P:Program)(t:TypeId){α:Type}(n:Nat)(C:α->List AV)(wf:α->Prop):Prop:=
 ∀(H:Type)(enc:TypeId×Value->H)(w:World)(fuel:Nat)(cs:List Value)(x:DataW H×List MemPlace),DataW.trod enc P w 0 (fun _=>true) true fuel t cs=some x->
  cs.length=n/\∃a:α,wf a/\Fl (C a)/\∃N0,∀N,N0<=N->Hw w (wH N w) (C a) cs
def Au(P:Program)(t:TypeId)(α:Type)[aP α](wf:α->Prop):Prop:=kM P t (aP.w α) (aP.cells:α->List AV) wf
section
variable{P:Program}{t:TypeId}
def CL{a:AV}(h:qH a=true):Fl [a]:=by
 intro c hc
 grind
def ri(ht:P.underlying t=some (.int .i64)):Au P t Int fun n=>-9223372036854775808<=n/\n<=9223372036854775807:=by
 intro H enc w fuel cs x h
 obtain⟨n,rfl,_,hw⟩:=DataW.trod_int ht h
 refine⟨rfl,n,?_,CL rfl,0,fun N _=>Hw.one (.int _ n)⟩
 grind [Lit.wf,IntKind.min,IntKind.max,IntKind.signed,IntKind.bits]
def Uv(ht:P.underlying t=some (.int .u8)):Au P t UInt8 fun _=>True:=by
 intro H enc w fuel cs x h
 obtain⟨n,rfl,_,hw⟩:=DataW.trod_int ht h
 have hb:=by simpa[Lit.wf,IntKind.min,IntKind.max,IntKind.signed,IntKind.bits]using hw
 refine⟨rfl,UInt8.ofNat n.toNat,trivial,CL rfl,0,fun N _=>?_⟩
 have e:((UInt8.ofNat n.toNat).toNat)=n:=by rw[UInt8.toNat_ofNat'];omega
 show Hw _ _ [.int .u8 ((UInt8.ofNat n.toNat).toNat)] _
 rw[e]
 exact Hw.one (.int _ n)
def Az{α:Type}{Q:Nat->α->Prop}:∀n:Nat,(∀i,i<n->∃a,Q i a)->∃l:List α,l.length=n/\∀(i:Nat)(a:α),l[i]? =some a->Q i a
 |0,_=>⟨[],rfl,fun i a h=>A_⟩
 |n+1,h=>by
  obtain⟨l,h1,h2⟩:=Az n fun i hi=>h i AT
  obtain⟨a,ha⟩:=h n BY
  refine⟨l++[a],A_,fun i x hx=>?_⟩
  grind
def common{Q:Nat->Nat->Prop}:∀n:Nat,(∀i,i<n->∃N0,∀N,N0<=N->Q i N)->∃N0,∀N,N0<=N->∀i,i<n->Q i N
 |0,_=>⟨0,fun _ _ i h=>absurd h (Nat.not_lt_zero i)⟩
 |n+1,h=>by
  obtain⟨a,ha⟩:=common n fun i hi=>h i AT
  obtain⟨b,hb⟩:=h n BY
  refine⟨max a b,fun N hN i hi=>?_⟩
  grind
def SM{α:Type}[aP α](l:List α){i r:Nat}{a:α}(hi:l[i]? =some a)(hr:r<aP.w α):(flat l)[i*aP.w α+r]? =(aP.cells a)[r]? :=by
 have h1:=lG l (aP.w α) i 1 rfl
 obtain⟨hlt,he⟩:=List.getElem?_eq_some_iff.1 hi
 have h2:(l.drop i).take 1=[a]:=by rw[List.drop_eq_getElem_cons hlt,he];rfl
 rw[h2,n9,qI,List.append_nil]at h1
 rw[<-h1]
 unfold AB.sub
 grind
end
end Go.AB
end
section
namespace Go.AB
open Go Go.RowKit Go.ChangeShapes Go.WideShapes
section
variable{P:Program}
theorem wx{H:Type}{enc:TypeId×Value->H}(hl:laidOutB P=true){W W':World}(hb:Below W.heap.size W W'):
 ∀{ts:List TypeId}{vs:List Value}{ds:List (DataW H)}{ps:List MemPlace},(∀t∈ts,P.readableRec t=true/\t<P.types.size)->DataW.TrodAll enc P W 0 (fun _=>true) true ts vs ds ps->
  DataW.TrodAll enc P W' 0 (fun b=>decide (b<W.heap.size)) true ts vs ds ps
 |[],[],[],_,_,h=>h
 |t::ts,v::vs,d::ds,_,hr,h=>by
  have hlt:=h.lt
  obtain⟨p,q,h1,h2,rfl⟩:=h
  have ht:=hr t List.mem_cons_self
  exact⟨p,q,Below.trod hl ht.1 ht.2 h1 hb fun x hx=>hlt x (List.mem_append_left _ hx),wx hl hb (fun t ht=>hr t (List.mem_cons_of_mem _ ht)) h2,rfl⟩
 |[],_::_,_,_,_,h=>h.elim
 |[],[],_::_,_,_,h=>h.elim
 |_::_,[],_,_,_,h=>h.elim
 |_::_,_::_,[],_,_,h=>h.elim
def TX{H:Type}{enc:TypeId×Value->H}{fn:Func}{s:ChangeSpec}{f:FuncId}{W:World}{args:Array Value}{ds gs:List (DataW H)}{before:List MemPlace}{tb:TypeId}
 (ZN:s.vars=[])(nN:fn.resultTypes= #[tb])(htb:P.underlying tb=some .bool)(hl:laidOutB P=true)(hr:∀t∈fn.params.toList,P.readableRec t=true/\t<P.types.size)
 (afZ:∀ds:List (DataW H),ds.length=fn.params.toList.length->s.fn H ds={results:=[.lit (.bool true)],args:=ds})
 (hW:DataW.Whole enc P fn.params.toList s.vars false W args.toList ds gs before)
 (hc:Calls P f args W fun e w'=>e=.returned (.bool true)/\Below W.heap.size W w'):
 Calls P f args W fun e W'=>∃v,e=.returned v/\s.post enc P fn false true false false W args v W':=by
 refine hc.mono fun e W'⟨he,hb⟩=>⟨.bool true,he,?_⟩
 have hW':=hW
 obtain⟨p,q,hA,hV,rfl,hfz,hnd⟩:=hW
 rw[ZN]at hV
 obtain⟨rfl,rfl⟩:=trodVars_none hV
 have hs:=afZ ds (trodAll_length hA).2
 refine⟨ds,[],_,[],p,[],hW',?_,?_,?_,?_,fun h=>A_⟩
 ·rw[List.append_nil,hs,nN]
  exact trodAll_mk1 (shut_bool htb true)
 ·grind [wx]
 ·rw[List.append_nil,hs,ZN]
  exact rfl
 ·exact World.keptBut_mono (fun p hp=>hp.elim) (hb.frame fun _=>False)
def Cc(P:Program)(fs:List (TypeId×Nat))(o:Nat){α:Type}(n:Nat)(C:α->List AV)(wf:α->Prop):Prop:=
 ∀(H:Type)(enc:TypeId×Value->H)(w:World)(fuel:Nat)(cs:List Value),(∀f∈fs,∃x,DataW.trod enc P w 0 (fun _=>true) true fuel f.1 ((cs.drop f.2).take (P.cellsOf f.1))=some x)->
  ∃a:α,wf a/\Fl (C a)/\∃N0,∀N,N0<=N->Hw w (wH N w) (C a) ((cs.drop o).take n)
def Dx{o:Nat}:Cc P [] o 0 (fun _:Unit=>[]) fun _=>True:=fun _ _ _ _ _ _=>⟨(),trivial,(fun _ h=>absurd h List.not_mem_nil),0,fun _ _=>⟨D_,fun j a v h=>BY⟩⟩
def pN{t:TypeId}{o n1 n2:Nat}{fs:List (TypeId×Nat)}{α β:Type}{C1:α->List AV}{C2:β->List AV}{wf1:α->Prop}{wf2:β->Prop}
 (h1:kM P t n1 C1 wf1)(hc:P.cellsOf t=n1)(h2:Cc P fs (o+n1) n2 C2 wf2):Cc P ((t,o)::fs) o (n1+n2) (fun p:α×β=>C1 p.1++C2 p.2) fun p=>wf1 p.1/\wf2 p.2:=by
 intro H enc w fuel cs h
 obtain⟨x,hx⟩:=h _ List.mem_cons_self
 obtain⟨_,a,ha,hfa,N1,hN1⟩:=h1 H enc w fuel _ x hx
 obtain⟨b,hb,hfb,N2,hN2⟩:=h2 H enc w fuel cs fun f hf=>h f (List.mem_cons_of_mem _ hf)
 refine⟨(a,b),⟨ha,hb⟩,fun c hc=>(List.mem_append.1 hc).elim (hfa c) (hfb c),max N1 N2,fun N hN=>?_⟩
 grind [List.drop_drop,Hw.append]
theorem kM.map{t:TypeId}{n:Nat}{α β:Type}{C:α->List AV}{wf:α->Prop}(h:kM P t n C wf){C':β->List AV}{wf':β->Prop}(g:α->β)(hC:∀a,C' (g a)=C a)(hw:∀a,wf a->wf' (g a)):kM P t n C' wf':=by
 intro H enc w fuel cs x hx
 obtain⟨h1,a,h2,h3,N0,h4⟩:=h H enc w fuel cs x hx
 exact⟨h1,g a,hw a h2,A_,N0,A_⟩
def IK{t:TypeId}{fs:Array Field}{n:Nat}{α:Type}{C:α->List AV}{wf:α->Prop}(ht:P.underlying t=some (.struct fs))(hn:P.cellsOf t=n)
 (hf:Cc P (fs.toList.map fun f=>(f.type,f.offset)) 0 n C wf):kM P t n C wf:=by
 intro H enc w fuel cs x h
 obtain⟨xs,m,_,_,hl,hxl,hel⟩:=DataW.trod_struct ht h
 obtain⟨a,ha,hfa,N0,hN⟩:=hf H enc w m cs fun f hf=>by grind [List.getElem?_of_mem,List.getElem?_eq_some_iff,List.getElem?_eq_getElem]
 refine⟨A_,a,ha,hfa,N0,fun N h=>?_⟩
 grind
section
variable{H:Type}{enc:TypeId×Value->H}{w:World}{t:TypeId}{α:Type}[aP α]{wf:α->Prop}{b0:Nat}{v:Value}{d:DataW H}{ps:List MemPlace}
def Uq(hs:(∃fs,P.underlying t=some (.struct fs))\/∃n e,P.underlying t=some (.array n e))(he:Au P t α wf)(px:Value.okWide P w .any b0 t v)(h:DataW.Trod enc P w 0 (fun _=>true) true t v d ps):
 ∃a:α,wf a/\∃N0,∀N,N0<=N->VR w (wH N w) (.agg (aP.cells a)) v:=by
 have hv:∃cs,v=.agg cs:=by
  unfold Value.okWide at px
  rcases hs with⟨fs,hs⟩|⟨n,e,hs⟩<;>rw[hs]at px<;>obtain⟨cs,rfl,_⟩:=px<;>exact⟨cs,rfl⟩
 obtain⟨cs,rfl⟩:=hv
 obtain⟨fuel,hf⟩:=h
 obtain⟨_,a,ha,hfl,N0,hN⟩:=he H enc w fuel _ _ hf
 refine⟨a,ha,N0,fun N h=>?_⟩
 have h1:=hN N h
 exact .agg _ _ hfl (by simpa[Value.cells]using h1.1) fun j c v h2 h3=>h1.2 j c v h2 (by grind [Value.cells])
def NG(hs:∀cs,v≠.agg cs)(he:Au P t α wf)(h:DataW.Trod enc P w 0 (fun _=>true) true t v d ps):
 ∃a:α,wf a/\∃N0,∀N,N0<=N->Hw w (wH N w) (aP.cells a) [v]:=by
 obtain⟨fuel,hf⟩:=h
 obtain⟨_,a,ha,_,N0,hN⟩:=he H enc w fuel _ _ hf
 refine⟨a,ha,N0,fun N h=>?_⟩
 have:v.cells.toList=[v]:=by cases v<;>first|rfl|grind
 grind
theorem Hw.head{R:Nat->Nat}{a:AV}(h:Hw w R [a] [v]):VR w R a v:=h.2 0 a v rfl rfl
def Ur(ht:P.underlying t=some (.int .i64))(px:Value.okWide P w .any b0 t v)(h:DataW.Trod enc P w 0 (fun _=>true) true t v d ps):
 ∃n:Int,(-9223372036854775808<=n/\n<=9223372036854775807)/\∃N0,∀N,N0<=N->VR w (wH N w) (.int .i64 n) v:=by
 obtain⟨n,rfl,_⟩:=open_int ht px h
 obtain⟨a,ha,N0,hN⟩:=NG (fun _ h=>A_) (ri ht) h
 exact⟨a,ha,N0,fun N h=>(hN N h).head⟩
end
end
end Go.AB
end
section
namespace Go.AB
open Go
def uL(P:Program)(t:TypeId)(L:List (TypeId×Nat)):Bool:=match P.underlying t with
 |some (.struct fs)=>fs.toList.map (fun f=>(f.type,f.offset))==L
 |_=>false
def yO{P:Program}{t:TypeId}{L:List (TypeId×Nat)}{n:Nat}{α:Type}{C:α->List AV}{wf:α->Prop}(hs:uL P t L=true)(hn:P.cellsOf t=n)(hf:Cc P L 0 n C wf):kM P t n C wf:=by
 unfold uL at hs
 split at hs
 ·rename_i fs ht
  have he:=eq_of_beq hs
  exact IK ht hn (by rw[he];exact hf)
 ·cases hs
end Go.AB
end
section
namespace Go.AB
open Go Go.RowKit Go.ChangeShapes Go.WideShapes
def rN(K:Nat)(P:Program)(t:TypeId){α:Type}(n:Nat)(C:α->List AV)(wf:α->Prop):Prop:=
 ∀(H:Type)(enc:TypeId×Value->H)(w:World)(fuel:Nat)(cs:List Value)(x:DataW H×List MemPlace),fuel<=K->DataW.trod enc P w 0 (fun _=>true) true fuel t cs=some x->
  cs.length=n/\∃a:α,wf a/\Fl (C a)/\∃N0,∀N,N0<=N->Hw w (wH N w) (C a) cs
section
variable{P:Program}{t:TypeId}
theorem kM.b{n:Nat}{α:Type}{C:α->List AV}{wf:α->Prop}(h:kM P t n C wf)(K:Nat):rN K P t n C wf:=fun H enc w fuel cs x _ hx=>h H enc w fuel cs x hx
def rN.all{n:Nat}{α:Type}{C:α->List AV}{wf:α->Prop}(h:∀K,rN K P t n C wf):kM P t n C wf:=fun H enc w fuel cs x hx=>h fuel H enc w fuel cs x (Nat.le_refl _) hx
def rN.le{n:Nat}{α:Type}{C:α->List AV}{wf:α->Prop}{K K':Nat}(h:rN K P t n C wf)(hk:K'<=K):rN K' P t n C wf:=fun H enc w fuel cs x hf hx=>h H enc w fuel cs x (Nat.le_trans hf hk) hx
def N7{w:World}{α:Type}[aP α]{wf:α->Prop}{a:Addr}{len cap:Nat}(hl:len<=cap)(hm:cap<=maxLen)
 (each:∀i,i<len->∃x:α×List Value,wf x.1/\Fl (aP.cells x.1)/\w.cells? 0 (a.add (i*aP.w α)) (aP.w α)=some x.2/\∃N0,∀N,N0<=N->Hw w (wH N w) (aP.cells x.1) x.2):
 ∃l:List α,(l.length<=maxLen/\∀a∈l,wf a)/\Fl [.sl false (aP.w α) l.length (flat l)]/\∃N0,∀N,N0<=N->Hw w (wH N w) [.sl false (aP.w α) l.length (flat l)] [.slice (some a) len cap]:=by
 have hw:0<aP.w α:=aP.pos
 rcases Nat.eq_zero_or_pos len with h0|h0
 ·subst h0
  exact⟨[],⟨Nat.zero_le _,fun _ h=>absurd h List.not_mem_nil⟩,CL rfl,0,fun N _=>.one (.sle _ _ _)⟩
 obtain⟨b,off,spot⟩:=a
 have abx:spot=none/\b<w.heap.size:=by
  obtain⟨x,_,_,h2,_⟩:=each 0 h0
  obtain⟨_,h3,h4⟩:=World.cells?_some h2
  have h5:=h4 0 hw
  have hxl:0<x.2.length:=AT
  rw[List.getElem?_eq_getElem hxl]at h5
  unfold World.cell? at h5
  have e1:(((⟨b,off,spot⟩:Addr).add (0*aP.w α)).add 0).block=b:=by
   unfold Addr.add;repeat' split
   all_goals rfl
  have e2:(((⟨b,off,spot⟩:Addr).add (0*aP.w α)).add 0).spot.isSome=spot.isSome:=by
   cases spot with
   |none=>unfold Addr.add;repeat' split
          all_goals simp_all
   |some q=>unfold Addr.add;repeat' split
            all_goals simp_all
  rw[e1,e2]at h5
  split at h5
  ·rename_i hh
   refine⟨?_,(Array.getElem?_eq_some_iff.1 hh).1⟩
   cases spot with
   |none=>rfl
   |some q=>simp at h5
  ·cases h5
 obtain⟨rfl,hb⟩:=abx
 obtain⟨L,hL,hQ⟩:=Az len each
 have hx:∀i,i<len->∃x,L[i]? =some x:=fun i hi=>⟨L[i]' AT,List.getElem?_eq_getElem AT⟩
 obtain⟨N0,hN0⟩:=common (Q:=fun i N=>∀x,L[i]? =some x->Hw w (wH N w) (aP.cells x.1) x.2) len fun i hi=>by
  obtain⟨x,hx⟩:=hx i hi
  obtain⟨_,_,_,N0,h⟩:=hQ i x hx
  exact⟨N0,fun N hN y hy=>by rw[hx]at hy;cases hy;exact h N hN⟩
 have hwf:∀a∈L.map (·.1),wf a/\Fl (aP.cells a):=by
  intro a ha
  obtain⟨x,hx,rfl⟩:=List.mem_map.1 ha
  obtain⟨i,hi⟩:=List.getElem?_of_mem hx
  have:=hQ i x hi
  exact⟨this.1,this.2.1⟩
 have kj:∀(j:Nat)(c:AV),(flat (L.map (·.1)))[j]? =some c->∃v,w.cell? ⟨b,off+j,none⟩=some v/\∀N,N0<=N->VR w (wH N w) c v:=by
  intro j c hj
  have hjl:=(List.getElem?_eq_some_iff.1 hj).1
  rw[ax,List.length_map,hL]at hjl
  have hi:j/aP.w α<len:=Nat.div_lt_of_lt_mul (by rw[Nat.mul_comm];exact hjl)
  have hr:j % aP.w α<aP.w α:=Nat.mod_lt _ hw
  have hje:j=j/aP.w α*aP.w α+j % aP.w α:=by rw[Nat.mul_comm];exact(Nat.div_add_mod _ _).symm
  obtain⟨x,hx⟩:=hx _ hi
  have h1:=SM (L.map (·.1)) (i:=j/aP.w α) (a:=x.1) (by rw[List.getElem?_map,hx];rfl) hr
  rw[<-hje,hj]at h1
  obtain⟨_,_,h2,_⟩:=hQ _ x hx
  obtain⟨_,h3,h4⟩:=World.cells?_some h2
  have h5:=h4 _ hr
  rw[add_plain,add_plain,Nat.add_assoc,<-hje]at h5
  refine⟨x.2[j % aP.w α]' AT,by rw[h5,List.getElem?_eq_getElem],fun N hN=>?_⟩
  exact(hN0 N hN _ hi x hx).2 _ _ _ h1.symm (List.getElem?_eq_getElem _)
 refine⟨L.map (·.1),⟨by rw[List.length_map,hL];omega,fun a ha=>(hwf a ha).1⟩,CL rfl,max N0 (off+len*aP.w α),fun N hN=>.one ?_⟩
 rw[List.length_map,hL]
 refine .sl false (aP.w α) len _ b off cap (fun j=>(w.cell? ⟨b,off+j,none⟩).getD default) ?_ ?_ ?_ hl ?_ ?_
 ·intro c hcm
  unfold flat at hcm
  obtain⟨l,hl,hcl⟩:=List.mem_flatten.1 hcm
  obtain⟨a,ha,rfl⟩:=List.mem_map.1 hl
  exact(hwf a ha).2 c hcl
 ·rw[ax,List.length_map,hL]
 ·rw[ax,List.length_map,hL]
  unfold wH
  rw[if_pos hb];omega
 ·intro j c hj
  obtain⟨v,h1,_⟩:=kj j c hj
  rw[h1];rfl
 ·intro j c hj
  obtain⟨v,h1,h2⟩:=kj j c hj
  simp only[h1,Option.getD_some];exact h2 N AT
def IJ{K:Nat}{e:TypeId}{α:Type}[aP α]{wf:α->Prop}(ht:P.underlying t=some (.slice e))(hc:P.cellsOf e=aP.w α)(he:rN K P e (aP.w α) (aP.cells:α->List AV) wf):
 rN (K+1) P t 1 (fun l:List α=>[.sl false (aP.w α) l.length (flat l)]) fun l=>l.length<=maxLen/\∀a∈l,wf a:=by
 intro H enc w fuel cs x hk h
 rcases DataW.trod_slice ht h with⟨rfl,_⟩|⟨a,len,cap,elems,rest,n,rfl,rfl,_,_,hl,hm,hlen,hel,_⟩
 ·exact⟨rfl,[],⟨Nat.zero_le _,fun _ h=>absurd h List.not_mem_nil⟩,CL rfl,0,fun N _=>.one (.slnil _ _)⟩
 ·refine⟨rfl,N7 hl hm fun i hi=>?_⟩
  have h1:=hel i hi
  rw[hc,List.getElem?_eq_getElem AT,Option.bind_eq_some_iff]at h1
  obtain⟨cs,h2,h3⟩:=h1
  obtain⟨_,x,h4,h5,h6⟩:=he H enc w n cs _ AT h3
  exact⟨(x,cs),h4,h5,h2,h6⟩
def yP{e:TypeId}{α:Type}[aP α]{wf:α->Prop}(ht:P.underlying t=some (.slice e))(hc:P.cellsOf e=aP.w α)(he:Au P e α wf):
 kM P t 1 (fun l:List α=>[.sl false (aP.w α) l.length (flat l)]) fun l=>l.length<=maxLen/\∀a∈l,wf a:=
 rN.all fun K=>(IJ ht hc (kM.b he K)).le (Nat.le_succ K)
def HY{L:List (TypeId×Nat)}(hs:uL P t L=true):∃fs,P.underlying t=some (.struct fs):=by
 unfold uL at hs
 split at hs
 ·rename_i fs ht;exact⟨fs,ht⟩
 ·cases hs
def okWide_slice{w:World}{e:TypeId}{b0:Nat}{v:Value}(ht:P.underlying t=some (.slice e))(px:Value.okWide P w .any b0 t v):∀cs,v≠.agg cs:=by
 intro cs h
 subst h
 unfold Value.okWide Cell.okWide Cell.ok at px
 rw[ht]at px
 exact px
def Lw{H:Type}{enc:TypeId×Value->H}{w:World}{e:TypeId}{α:Type}[aP α]{wf:α->Prop}{v:Value}{d:DataW H}{ps:List MemPlace}
 (ht:P.underlying t=some (.slice e))(hc:P.cellsOf e=aP.w α)(he:Au P e α wf)(h:DataW.Trod enc P w 0 (fun _=>true) true t v d ps)(hv:∀cs,v≠.agg cs):
 ∃l:List α,(l.length<=maxLen/\∀a∈l,wf a)/\∃N0,∀N,N0<=N->VR w (wH N w) (.sl false (aP.w α) l.length (flat l)) v:=by
 obtain⟨fuel,hf⟩:=h
 obtain⟨_,l,hl,_,N0,hN⟩:=yP ht hc he H enc w fuel _ _ hf
 have mc:v.cells.toList=[v]:=by cases v<;>first|rfl|exact absurd rfl (hv _)
 refine⟨l,hl,N0,fun N h=>?_⟩
 have:=hN N h
 rw[mc]at this
 exact this.head
end
end Go.AB
end
