/- A part of the proof. -/
import Derived.Test.YtkeagffgdajggaaGreatD24
set_option linter.unusedSimpArgs false
set_option linter.unusedVariables false
section
namespace Go.AB
open Go
def eN(l:List Int)(n:Int):List Int:=if l.contains n then l else l++[n]
theorem OS(l:List Int)(n:Int):(eN l n).length<=l.length+1:=by unfold eN;split<;>simp
theorem FP{l:List Int}(h:l.Nodup)(n:Int):(eN l n).Nodup:=by
 unfold eN
 split
 ·exact h
 ·rename_i hc
  rw[List.nodup_append]
  refine⟨h,List.nodup_cons.2 ⟨by simp,List.nodup_nil⟩,fun a ha b hb e=>?_⟩
  rw[List.mem_singleton]at hb
  subst hb;subst e
  exact hc (by simpa using ha)
def fC:Nat->aa->List Int->List Int
 |0,_,l=>l
 |n+1,v,l=>
  if v.Kind==8 then eN l v.N
  else if(v.Kind==6)||(v.Kind==7)then v.L.foldl (fun l x=>fC n x l) l else l
theorem xu{f:List Int->aa->List Int}{g:aa->Nat}(h:∀l x,(f l x).length<=l.length+g x):∀(L:List aa)(l:List Int),(L.foldl f l).length<=l.length+(L.map g).sum
 |[],l=>by simp
 |x::L,l=>by
  have h1:=xu h L (f l x)
  have h2:=h l x
  simp only[List.foldl_cons,List.map_cons,List.sum_cons]
  omega
theorem xD:∀(n:Nat)(v:aa)(l:List Int),(fC n v l).length<=l.length+oY n v
 |0,v,l=>by simp[fC]
 |n+1,v,l=>by
  have h0:=OS l v.N
  have h1:=xu (f:=fun l x=>fC n x l) (g:=oY n) (fun l x=>xD n x l) v.L l
  have e:oY (n+1) v=1+(v.L.map (oY n)).sum:=rfl
  unfold fC
  split
  ·omega
  ·split<;>omega
theorem DM{f:List Int->aa->List Int}(h:∀l x,l.Nodup->(f l x).Nodup):∀(L:List aa)(l:List Int),l.Nodup->(L.foldl f l).Nodup
 |[],l,hl=>hl
 |x::L,l,hl=>DM h L _ (h l x hl)
theorem qS:∀(n:Nat)(v:aa)(l:List Int),l.Nodup->(fC n v l).Nodup
 |0,v,l,h=>h
 |n+1,v,l,h=>by
  unfold fC
  split
  ·exact FP h _
  ·split
   ·exact DM (fun l x=>qS n x l) _ _ h
   ·exact h
theorem QU(L:List aa)(g:aa->Nat)(k:Nat)(hk:k<L.length):((L.take k).map g).sum+g L[k]<=(L.map g).sum:=by
 have e:L.map g=(L.take k).map g++(L.drop k).map g:=by rw[<-List.map_append,List.take_append_drop]
 rw[e,List.sum_append,List.drop_eq_getElem_cons hk,List.map_cons,List.sum_cons]
 omega
theorem has_eq(l:List Int)(n:Int)(hb:l.length<4611686018427387904):ng l n=some (l.contains n):=by
 unfold ng
 have step:∀k(hk:k<l.length),ix l (k:Int)=l[k]:=fun k hk=>oP (i:=(k:Int)) hk
 cases h:l.findIdx? (·==n)with
 |none=>
  rw[List.findIdx?_eq_none_iff]at h
  have hc:l.contains n=false:=by
   rw[List.contains_eq_mem]
   exact decide_eq_false fun hm=>by have:=h n hm;simp at this
  rw[hc]
  refine en (z:=.inl ()) (dK (z:=.inl ()) (eO l.length hb (fun k hk=>?_) ?_) rfl) rfl
  ·refine aL (decide_eq_true (by omega)) (au ⟨by omega,by omega⟩ ?_)
   rw[step k hk,if_neg (by rw[h _ (List.getElem_mem hk)];simp)]
  ·exact az (by simp) rfl
 |some i=>
  rw[List.findIdx?_eq_some_iff_getElem]at h
  obtain⟨hi,h1,h2⟩:=h
  have hc:l.contains n=true:=by
   rw[List.contains_eq_mem]
   exact decide_eq_true (by rw[<-eq_of_beq h1];exact List.getElem_mem hi)
  rw[hc]
  refine en (z:=.inr true) (dK (z:=.inr true) (eO i (by omega) (fun k hk=>?_) ?_) rfl) rfl
  ·refine aL (decide_eq_true (by omega)) (au ⟨by omega,by omega⟩ ?_)
   rw[step k (by omega),if_neg (h2 k hk)]
  ·refine aL (decide_eq_true (by omega)) (au ⟨by omega,by omega⟩ ?_)
   rw[step i hi,if_pos h1]
theorem TJ:∀(n:Nat)(v:aa)(fuel:Nat)(l:List Int),W n v->n<=fuel->(l.length+oY n v)*8<=room->fV fuel l v=some (fC n v l)
 |0,_,_,_,h,_,_=>h.elim
 |n+1,_,0,_,_,h,_=>by omega
 |n+1,v,fuel+1,l,h,hf,hr=>by
  have hr':=hr
  have ec:oY (n+1) v=1+(v.L.map (oY n)).sum:=rfl
  unfold room at hr'
  have hlen:v.L.length<4611686018427387904:=by
   have:∀L:List aa,(∀x∈L,W n x)->L.length<=(L.map (oY n)).sum:=fun L hL=>by
    induction L with
    |nil=>simp
    |cons x L ih=>
     have h1:=ih fun y hy=>hL y (List.mem_cons_of_mem _ hy)
     have h2:1<=oY n x:=by
      have:=hL x (List.mem_cons_self ..)
      cases n with
      |zero=>exact this.elim
      |succ n=>show 1<=1+_;omega
     simp only[List.length_cons,List.map_cons,List.sum_cons];omega
   have:=this v.L h.2
   omega
  rw[fV]
  by_cases h8:(v.Kind==8)=true
  ·have h6:(v.Kind==6||v.Kind==7)=false:=by
    rw[eq_of_beq h8];rfl
   rw[h8,T8,has_eq l v.N (by omega),aK]
   have er:fC (n+1) v l=eN l v.N:=by unfold fC;rw[if_pos h8]
   rw[er]
   unfold eN
   cases hc:l.contains v.N with
   |false=>exact aL rfl (au (by simp;omega) (au (by simp;omega) rfl))
   |true=>
    refine az (by simp) (iV (a:=l) ?_ rfl)
    exact gW 0 (fun _=>l) rfl (by decide) (fun k hk=>by omega) (aw (a:=false) (by unfold gz;rw[h6]) rfl)
  ·have h8':(v.Kind==8)=false:=by simpa using h8
   rw[h8',T7,aK]
   refine az (by simp) ?_
   cases hh:(v.Kind==6)||(v.Kind==7)with
   |false=>
    have er:fC (n+1) v l=l:=by unfold fC;rw[if_neg h8,hh];rfl
    rw[er]
    exact iV (a:=l) (gW 0 (fun _=>l) rfl (by decide) (fun k hk=>by omega) (aw (a:=false) (by unfold gz;rw[hh]) rfl)) rfl
   |true=>
    have er:fC (n+1) v l=v.L.foldl (fun l x=>fC n x l) l:=by rw[fC,if_neg h8,hh,if_pos rfl]
    rw[er]
    refine iV (a:=v.L.foldl (fun l x=>fC n x l) l) ?_ rfl
    refine gW v.L.length (fun k=>(v.L.take k).foldl (fun l x=>fC n x l) l) rfl hlen (fun k hk=>?_) ?_
    ·refine aw (a:=true) (by unfold gz;rw[hh]) (aL (by simp;omega) (au ⟨by omega,by omega⟩ ?_))
     have e2:ix v.L (k:Int)=v.L[k]:=oP (i:=(k:Int)) hk
     rw[e2]
     have s1:=QU v.L (oY n) k hk
     have s2:=xu (f:=fun l x=>fC n x l) (g:=oY n) (fun l x=>xD n x l) (v.L.take k) l
     refine aw (TJ n v.L[k] fuel _ (h.2 _ (List.getElem_mem hk)) (by omega) (by unfold room;omega)) ?_
     show some _=some _
     rw[List.take_succ_eq_append_getElem hk,List.foldl_append]
     rfl
    ·refine aw (a:=true) (by unfold gz;rw[hh]) (az (by simp) ?_)
     rw[List.take_length]
theorem TH{n:Nat}:∀(L:List aa),(∀x∈L,W n x)->L.length<=(L.map (oY n)).sum
 |[],_=>by simp
 |x::L,hL=>by
  have h1:=TH L fun y hy=>hL y (List.mem_cons_of_mem _ hy)
  have h2:1<=oY n x:=by
   have:=hL x (List.mem_cons_self ..)
   cases n with
   |zero=>exact this.elim
   |succ n=>show 1<=1+_;omega
  simp only[List.length_cons,List.map_cons,List.sum_cons];omega
theorem UW(m:List (Int×Bool))(a k:Int):lr (ry m a true) k=if a=k then some true else lr m k:=by
 induction m with
 |nil=>
  show(bif k==a then some true else none)=_
  by_cases e:a=k
  ·subst e;simp
  ·rw[if_neg e]
   have:(k==a)=false:=by rw[beq_eq_false_iff_ne];exact fun h=>e h.symm
   rw[this];rfl
 |cons x m ih=>
  obtain⟨c,b⟩:=x
  show lr (bif a==c then(a,true)::m else(c,b)::ry m a true) k=_
  by_cases e:a=c
  ·subst e
   rw[show(a==a)=true by simp,cond_true]
   show(bif k==a then some true else lr m k)=if a=k then some true else(bif k==a then some b else lr m k)
   by_cases e2:a=k
   ·subst e2;simp
   ·rw[if_neg e2]
    have:(k==a)=false:=by rw[beq_eq_false_iff_ne];exact fun h=>e2 h.symm
    rw[this];rfl
  ·have e1:(a==c)=false:=by rw[beq_eq_false_iff_ne];exact e
   rw[e1,cond_false]
   show(bif k==c then some b else lr (ry m a true) k)=if a=k then some true else(bif k==c then some b else lr m k)
   rw[ih]
   by_cases e2:a=k
   ·subst e2;rw[e1];simp
   ·rw[if_neg e2,if_neg e2]
def Seen(m:List (Int×Bool))(l:List Int):Prop:=∀k,Sh false m k=l.contains k
theorem Seen.add{m:List (Int×Bool)}{l:List Int}(h:Seen m l)(n:Int):Seen (ry m n true) (l++[n]):=fun k=>by
 have:=h k
 unfold Sh at this⊢
 rw[UW,List.contains_eq_mem]
 rw[List.contains_eq_mem]at this
 by_cases e:n=k
 ·subst e;simp
 ·rw[if_neg e,this]
  have e':¬k=n:=fun h=>e h.symm
  simp[e']
theorem X3(v:aa)(m:List (Int×Bool))(l:List Int)(hs:Seen m l)(hr:(l.length+1)*8<=room):
 ∃m',jV v m l=some (true,m',if v.Kind==8 then eN l v.N else l)/\Seen m' (if v.Kind==8 then eN l v.N else l):=by
 unfold jV
 by_cases h8:(v.Kind==8)=true
 ·rw[if_pos h8]
  unfold eN
  rw[hs v.N]
  cases hc:l.contains v.N with
  |true=>
   refine⟨m,?_,by simpa using hs⟩
   exact iV (a:=(m,l)) (az (by simp) rfl) rfl
  |false=>
   refine⟨ry m v.N true,?_,by simpa using hs.add v.N⟩
   refine iV (a:=(ry m v.N true,l++[v.N])) (aL (by simp[h8]) (au (by simpa using hr) rfl)) rfl
 ·rw[if_neg h8]
  have h8':(v.Kind==8)=false:=by simpa using h8
  refine⟨m,iV (a:=(m,l)) (az (by simp[h8']) rfl) rfl,hs⟩
theorem T6:∀(n:Nat)(v:aa)(fuel:Nat)(m:List (Int×Bool))(l:List Int),W n v->n<=fuel->Seen m l->(l.length+oY n v)*8<=room->∃m',gJ fuel v m l=some (true,m',fC n v l)/\Seen m' (fC n v l)
 |0,_,_,_,_,h,_,_,_=>h.elim
 |n+1,_,0,_,_,_,h,_,_=>by omega
 |n+1,v,fuel+1,m,l,h,hf,hs,hr=>by
  have hr':=hr
  have ec:oY (n+1) v=1+(v.L.map (oY n)).sum:=rfl
  unfold room at hr'
  obtain⟨m1,h1,h2⟩:=X3 v m l hs (by unfold room;omega)
  rw[gJ,h1,aK]
  by_cases h8:(v.Kind==8)=true
  ·rw[if_pos h8]at h2⊢
   have er:fC (n+1) v l=eN l v.N:=by rw[fC,if_pos h8]
   rw[er]
   refine⟨m1,?_,h2⟩
   have e8:=eq_of_beq h8
   exact az (by simp) (aL (by rw[e8];rfl) rfl)
  ·rw[if_neg h8]at h2⊢
   cases hh:(v.Kind==6)||(v.Kind==7)with
   |false=>
    have er:fC (n+1) v l=l:=by rw[fC,if_neg h8,hh];rfl
    rw[er]
    refine⟨m1,?_,h2⟩
    refine az (by simp) (aL ?_ rfl)
    rw[Bool.or_eq_false_iff]at hh
    rw[bne,bne,hh.1,hh.2];rfl
   |true=>
    have er:fC (n+1) v l=v.L.foldl (fun l x=>fC n x l) l:=by rw[fC,if_neg h8,hh,if_pos rfl]
    rw[er]
    have hlen:=TH v.L h.2
    have hit:=ma (body:=fun((t7,o8,o9):Int×(List (Int×Bool))×(List Int))=>
     if decide (t7<(v.L.length:Int))then
      aB (0<=t7/\t7<v.L.length)<|
      aJ (gJ fuel (ix v.L t7) o8 o9) fun r15=>
      if !r15.1 then
       some (.inr (.inr (false,r15.2.1,r15.2.2)))
      else
       some (.inl (bd (t7+1),r15.2.1,r15.2.2))
     else
      some (.inr (.inl (o8,o9)))) (s0:=(0,m1,l))
     (fun s=>∃k:Nat,s.1=(k:Int)/\k<=v.L.length/\s.2.2=(v.L.take k).foldl (fun l x=>fC n x l) l/\Seen s.2.1 s.2.2)
     (fun s=>((v.L.length:Int) -s.1).toNat)
     (fun o=>∃m',o=(.inl (m',v.L.foldl (fun l x=>fC n x l) l):(List (Int×Bool)×List Int)⊕(Bool×List (Int×Bool)×List Int))/\Seen m' (v.L.foldl (fun l x=>fC n x l) l))
     ⟨0,rfl,Nat.zero_le _,rfl,h2⟩ (by show((v.L.length:Int) -0).toNat<_;omega) (by
       rintro⟨t,mm,ll⟩ ⟨k,e1,e2,e3,e4⟩
       simp only at e1 e3 e4
       subst e1;subst e3
       by_cases hk:k<v.L.length
       ·have e5:ix v.L (k:Int)=v.L[k]:=oP (i:=(k:Int)) hk
        have s1:=QU v.L (oY n) k hk
        have s2:=xu (f:=fun l x=>fC n x l) (g:=oY n) (fun l x=>xD n x l) (v.L.take k) l
        obtain⟨m',g1,g2⟩:=T6 n v.L[k] fuel mm _ (h.2 _ (List.getElem_mem hk)) (by omega) e4 (by unfold room;omega)
        refine⟨_,aL (decide_eq_true (by omega)) (au ⟨by omega,by omega⟩ (aw (by rw[e5];exact g1) (az (by simp) rfl))),?_⟩
        have hw:bd ((k:Int)+1)=((k+1:Nat):Int):=by rw[aI (by omega) (by omega)];omega
        refine⟨⟨k+1,hw,hk,?_,g2⟩,?_⟩
        ·rw[List.take_succ_eq_append_getElem hk,List.foldl_append];rfl
        ·show((v.L.length:Int) -bd ((k:Int)+1)).toNat<((v.L.length:Int) -k).toNat
         rw[hw];omega
       ·obtain rfl:k=v.L.length:=by omega
        refine⟨_,az (by simp) rfl,mm,?_,?_⟩
        ·rw[List.take_length]
        ·rw[List.take_length]at e4;exact e4)
    obtain⟨o,i1,m',i2,i3⟩:=hit
    subst i2
    refine⟨m',?_,i3⟩
    refine az (by simp) (az ?_ (en (z:=.inl (m',v.L.foldl (fun l x=>fC n x l) l)) (dK i1 rfl) rfl))
    rw[bne,bne]
    rcases Bool.or_eq_true .. ▸hh with h|h<;>rw[h]<;>simp
end Go.AB
end
section
namespace Go.AB
open Go
def ks(v:aa):Prop:=W 302 v/\oY 302 v<=1300
def xF(v:aa):List Int:=fC 302 v []
theorem tJ{v:aa}(h:ks v):(xF v).length<=1300:=by
 have:=xD 302 v []
 have:=h.2
 unfold xF
 simp only[List.length_nil]at*
 omega
theorem aap{v:aa}(h:ks v):qy v=some (xF v):=by
 obtain⟨m',h1,_⟩:=T6 302 v iu [] [] h.1 (by decide) (fun k=>rfl) (by have:=h.2;unfold room;simp only[List.length_nil];omega)
 exact aw h1 rfl
theorem Yg{v:aa}(h:ks v):nf v=some (xF v):=aw (TJ 302 v iu [] h.1 (by decide) (by have:=h.2;unfold room;simp only[List.length_nil];omega)) rfl
theorem sB(l:List Int):(kept l).length<=l.length:=List.length_filter_le _ _
theorem BC{v:aa}(h:ks v):fU v=some (kept (xF v)):=aw (aap h) (au (by have:=tJ h;unfold room;omega) rfl)
theorem UN{l:List Int}{k:Nat}(hk:k<l.length):kept (l.take (k+1))=kept (l.take k)++(if gone l[k]then[]else[l[k]]):=by
 unfold kept
 rw[List.take_succ_eq_append_getElem hk,List.filter_append]
 cases hg:gone l[k]<;>simp[hg]
theorem IB{v:aa}(h:ks v):gH v=some (kept (xF v)):=by
 have hl:=tJ h
 refine aw (Yg h) ?_
 generalize xF v=l at hl
 refine iV (a:=kept l) ?_ rfl
 refine gW l.length (fun k=>kept (l.take k)) rfl (by omega) (fun k hk=>?_) ?_
 ·have e:ix l (k:Int)=l[k]:=oP (i:=(k:Int)) hk
  have hkl:=sB (l.take k)
  rw[List.length_take]at hkl
  refine aL (decide_eq_true (by omega)) (iV (a:=kept (l.take (k+1))) (au ⟨by omega,by omega⟩ (au (fun _=>⟨by omega,by omega⟩) ?_)) rfl)
  rw[UN hk,e]
  have hg:((decide (l[k]>=1))&&(decide (l[k]<=4096)))=!gone l[k]:=by
   unfold gone
   rw[Bool.eq_iff_iff]
   simp
  rw[hg]
  cases gone l[k]with
  |true=>exact az (by simp) (by simp)
  |false=>exact aL (by simp) (au ⟨by omega,by omega⟩ (au (by simp only[List.length_cons,List.length_nil];unfold room;omega) rfl))
 ·refine az (by simp) ?_
  rw[List.take_length]
theorem Ym(L:List aa)(g:aa->Nat)(i:Nat):((L.drop i).map g).sum<=(L.map g).sum:=by
 have e:L.map g=(L.take i).map g++(L.drop i).map g:=by rw[<-List.map_append,List.take_append_drop]
 rw[e,List.sum_append];omega
theorem drop_eq{v:aa}(h:ks v)(key:ar):∃v',c5 v key=some v'/\iO v key=some v'/\ks v':=by
 have hlen:v.L.length<=301:=h.1.1
 obtain⟨r,h1,h2,h3⟩:=kq v key (by omega)
 by_cases h0:r<0
 ·exact⟨v,aw h1 (aL (decide_eq_true h0) rfl),aw ((nv v key).trans h1) (aL (decide_eq_true h0) rfl),h⟩
 ·obtain⟨i,rfl⟩:∃i:Nat,r=(i:Int):=⟨r.toNat,by omega⟩
  have hi:i<v.L.length:=by omega
  have alY:((v.L.take i++v.L.drop (min (i+2) v.L.length)).map (oY 301)).sum<=(v.L.map (oY 301)).sum:=by
   have e:v.L.map (oY 301)=(v.L.take i).map (oY 301)++(v.L.drop i).map (oY 301):=by rw[<-List.map_append,List.take_append_drop]
   have e2:v.L.drop (min (i+2) v.L.length)=(v.L.drop i).drop (min (i+2) v.L.length -i):=by rw[List.drop_drop];congr 1;omega
   have:=Ym (v.L.drop i) (oY 301) (min (i+2) v.L.length -i)
   rw[e,List.map_append,List.sum_append,List.sum_append,e2]
   omega
  refine⟨⟨v.Kind,v.N,v.S,v.L.take i++v.L.drop (min (i+2) v.L.length)⟩,?_,?_,?_,?_⟩
  ·exact aw h1 (az (by simp) (au ⟨by omega,by omega,by unfold room;omega⟩ rfl))
  ·have hw:bd ((i:Int)+2)=((i+2:Nat):Int):=by rw[aI (by omega) (by omega)];omega
   have p0:part v.L 0 (i:Int)=v.L.take i:=by
    show(v.L.drop 0).take ((i:Int) -0).toNat=_
    rw[Int.sub_zero];rfl
   have hl0:(v.L.take i).length<=301:=by rw[List.length_take];omega
   refine aw ((nv v key).trans h1) (az (by simp) (au ⟨by omega,by omega,by omega⟩ ?_))
   rw[p0,hw]
   refine au (by simp only[List.length_nil];unfold room;omega) ?_
   refine iV (a:=v.L.take i++v.L.drop (min (i+2) v.L.length)) ?_ rfl
   by_cases h4:i+2<v.L.length
   ·have p1:part v.L ((i+2:Nat):Int) (v.L.length:Int)=v.L.drop (i+2):=by
     show(v.L.drop (i+2)).take (((v.L.length:Int) -((i+2:Nat):Int)).toNat)=_
     exact List.take_of_length_le (by rw[List.length_drop];omega)
    rw[p1,Nat.min_eq_left (by omega)]
    have hl1:(v.L.drop (i+2)).length<=301:=by rw[List.length_drop];omega
    exact aL (decide_eq_true (by omega)) (au ⟨by omega,by omega,by omega⟩ (au (by unfold room;omega) rfl))
   ·rw[Nat.min_eq_right (by omega),List.drop_length,List.append_nil]
    exact az (by simp;omega) rfl
  ·refine⟨?_,fun x hx=>?_⟩
   ·show(v.L.take i++v.L.drop (min (i+2) v.L.length)).length<=301
    rw[List.length_append,List.length_take,List.length_drop];omega
   ·rcases List.mem_append.1 hx with hx|hx
    ·exact h.1.2 x (List.mem_of_mem_take hx)
    ·exact h.1.2 x (List.mem_of_mem_drop hx)
  ·have e:oY 302 v=1+(v.L.map (oY 301)).sum:=rfl
   have h2:=h.2
   show 1+((v.L.take i++v.L.drop (min (i+2) v.L.length)).map (oY 301)).sum<=1300
   omega
end Go.AB
end
section
namespace Go.AB
open Go
theorem Sg(m:List (Int×Int))(a b k:Int):lr (ry m a b) k=if a=k then some b else lr m k:=by
 induction m with
 |nil=>
  show(bif k==a then some b else none)=_
  by_cases e:a=k
  ·subst e;simp
  ·rw[if_neg e]
   have:(k==a)=false:=by rw[beq_eq_false_iff_ne];exact fun h=>e h.symm
   rw[this];rfl
 |cons x m ih=>
  obtain⟨c,d⟩:=x
  show lr (bif a==c then(a,b)::m else(c,d)::ry m a b) k=_
  by_cases e:a=c
  ·subst e
   rw[show(a==a)=true by simp,cond_true]
   show(bif k==a then some b else lr m k)=if a=k then some b else(bif k==a then some d else lr m k)
   by_cases e2:a=k
   ·subst e2;simp
   ·rw[if_neg e2]
    have:(k==a)=false:=by rw[beq_eq_false_iff_ne];exact fun h=>e2 h.symm
    rw[this];rfl
  ·have e1:(a==c)=false:=by rw[beq_eq_false_iff_ne];exact e
   rw[e1,cond_false]
   show(bif k==c then some d else lr (ry m a b) k)=if a=k then some b else(bif k==c then some d else lr m k)
   rw[ih]
   by_cases e2:a=k
   ·subst e2;rw[e1];simp
   ·rw[if_neg e2,if_neg e2]
def InL(m:List (Int×Int))(l:List Int):Prop:=∀k,Ql m k=l.contains k
theorem InL.add{m:List (Int×Int)}{l:List Int}(h:InL m l)(n b:Int):InL (ry m n b) (l++[n]):=fun k=>by
 have:=h k
 unfold Ql at this⊢
 rw[Sg,List.contains_eq_mem]
 rw[List.contains_eq_mem]at this
 by_cases e:n=k
 ·subst e;simp
 ·rw[if_neg e,this]
  have e':¬k=n:=fun h=>e h.symm
  simp[e']
theorem AL:∀(xs l:List Int),(xs.foldl eN l).length<=l.length+xs.length
 |[],l=>by simp
 |x::xs,l=>by
  have h1:=AL xs (eN l x)
  have h2:=OS l x
  simp only[List.foldl_cons,List.length_cons]
  omega
theorem Gn:∀(xs l:List Int),(l++xs).Nodup->xs.foldl eN l=l++xs
 |[],l,_=>by simp
 |x::xs,l,h=>by
  have hx:l.contains x=false:=by
   rw[List.contains_eq_mem]
   refine decide_eq_false fun hm=>?_
   rw[List.nodup_append]at h
   exact h.2.2 x hm x (List.mem_cons_self ..) rfl
  have e:eN l x=l++[x]:=by unfold eN;rw[hx];rfl
  rw[List.foldl_cons,e,Gn xs (l++[x]) (by rw[List.append_assoc];exact h),List.append_assoc]
  rfl
theorem put_eq(m:List (Int×Int))(l xs:List Int)(hs:InL m l)(hr:(l.length+xs.length+1)*8<=room):∃m',cz ⟨l,m⟩ xs=some ⟨xs.foldl eN l,m'⟩/\InL m' (xs.foldl eN l):=by
 have hr':=hr
 unfold room at hr'
 have hit:=ma (body:=fun((t1,o2):Int×bN)=>
  if decide (t1<(xs.length:Int))then
   jn (
    aB (0<=t1/\t1<xs.length)<|
    if !(Ql o2.UE (ix xs t1))then
     aB ((o2.l_.length+[ix xs t1].length)*8<=room)<|
     some (bN.mk (o2.l_++[ix xs t1]) (ry o2.UE (ix xs t1) (o2.l_.length:Int)))
    else
     some o2) fun(o7:bN)=>
   some (.inl (bd (t1+1),o7))
  else
   some (.inr o2)) (s0:=(0,⟨l,m⟩))
  (fun s=>∃k:Nat,s.1=(k:Int)/\k<=xs.length/\s.2.l_=(xs.take k).foldl eN l/\InL s.2.UE s.2.l_)
  (fun s=>((xs.length:Int) -s.1).toNat)
  (fun o=>∃m',o=(⟨xs.foldl eN l,m'⟩:bN)/\InL m' (xs.foldl eN l))
  ⟨0,rfl,Nat.zero_le _,rfl,hs⟩ (by show((xs.length:Int) -0).toNat<_;omega) (by
    rintro⟨t,ll,mm⟩ ⟨k,e1,e2,e3,e4⟩
    simp only at e1 e3 e4
    subst e1;subst e3
    by_cases hk:k<xs.length
    ·have e5:ix xs (k:Int)=xs[k]:=oP (i:=(k:Int)) hk
     have s2:=AL (xs.take k) l
     rw[List.length_take]at s2
     have hw:bd ((k:Int)+1)=((k+1:Nat):Int):=by rw[aI (by omega) (by omega)];omega
     have jz:(xs.take (k+1)).foldl eN l=eN ((xs.take k).foldl eN l) xs[k]:=by rw[List.take_succ_eq_append_getElem hk,List.foldl_append];rfl
     have hμ:((xs.length:Int) -bd ((k:Int)+1)).toNat<((xs.length:Int) -k).toNat:=by rw[hw];omega
     dsimp only
     rw[e5]
     generalize hA:(xs.take k).foldl eN l=A at e4 s2 jz
     cases hc:A.contains xs[k]with
     |true=>
      have ea:eN A xs[k]=A:=by unfold eN;rw[hc];rfl
      refine⟨.inl (bd ((k:Int)+1),⟨A,mm⟩),aL (decide_eq_true (by omega)) (iV (a:=⟨A,mm⟩) (au ⟨by omega,by omega⟩ (az (by rw[e4 xs[k],hc];simp) rfl)) rfl),?_,hμ⟩
      exact⟨k+1,hw,hk,by rw[jz,ea],e4⟩
     |false=>
      have ea:eN A xs[k]=A++[xs[k]]:=by unfold eN;rw[hc];rfl
      refine⟨.inl (bd ((k:Int)+1),⟨A++[xs[k]],ry mm xs[k] (A.length:Int)⟩),aL (decide_eq_true (by omega)) (iV (a:=⟨A++[xs[k]],ry mm xs[k] (A.length:Int)⟩) (au ⟨by omega,by omega⟩ (aL (by rw[e4 xs[k],hc];rfl) (au (by simp only[List.length_cons,List.length_nil];unfold room;omega) rfl))) rfl),?_,hμ⟩
      exact⟨k+1,hw,hk,by rw[jz,ea],e4.add _ _⟩
    ·obtain rfl:k=xs.length:=by omega
     refine⟨_,az (by simp) rfl,mm,?_,?_⟩
     ·rw[List.take_length]
     ·rw[List.take_length]at e4;exact e4)
 obtain⟨o,i1,m',i2,i3⟩:=hit
 subst i2
 exact⟨m',i1,i3⟩
theorem abD(l xs:List Int)(hr:(l.length+xs.length+1)*8<=room):jI l xs=some (xs.foldl eN l):=by
 have hr':=hr
 unfold room at hr'
 unfold jI
 refine au (by simp only[List.length_nil];unfold room;omega) (iV (a:=xs.foldl eN l) ?_ rfl)
 refine gW xs.length (fun k=>(xs.take k).foldl eN l) rfl (by omega) (fun k hk=>?_) ?_
 ·have e5:ix xs (k:Int)=xs[k]:=oP (i:=(k:Int)) hk
  have s2:=AL (xs.take k) l
  rw[List.length_take]at s2
  have jz:(xs.take (k+1)).foldl eN l=eN ((xs.take k).foldl eN l) xs[k]:=by rw[List.take_succ_eq_append_getElem hk,List.foldl_append];rfl
  simp only[jz,e5]
  generalize(xs.take k).foldl eN l=A at s2
  have hh:pB A xs[k]=some (A.contains xs[k]):=has_eq A xs[k] (by omega)
  refine aL (decide_eq_true (by omega)) (iV (a:=eN A xs[k]) (au ⟨by omega,by omega⟩ (aw hh ?_)) rfl)
  unfold eN
  cases hc:A.contains xs[k]with
  |true=>exact az (by simp) rfl
  |false=>exact aL rfl (au ⟨by omega,by omega⟩ (au (by simp only[List.length_cons,List.length_nil];unfold room;omega) rfl))
 ·refine az (by simp) ?_
  rw[List.take_length]
theorem Gk{v g:aa}(h:ks v)(hg:ks g):∃l:List Int,gy v g=some l/\lC v g=some l/\l.length<=2600:=by
 obtain⟨v',d1,d2,d3⟩:=drop_eq h (ar.mk [80,97,114,101,110,116])
 have l1:=sB (xF v')
 have l2:=sB (xF g)
 have l3:=tJ d3
 have l4:=tJ hg
 have hnd:(kept (xF v')).Nodup:=(qS 302 v' [] List.nodup_nil).filter _
 have e0:(kept (xF v')).foldl eN []=kept (xF v'):=Gn _ [] (by simpa using hnd)
 obtain⟨m1,p1,p2⟩:=put_eq [] [] (kept (xF v')) (fun k=>rfl) (by unfold room;simp only[List.length_nil];omega)
 rw[e0]at p1 p2
 obtain⟨m2,p3,p4⟩:=put_eq m1 (kept (xF v')) (kept (xF g)) p2 (by unfold room;omega)
 have hl:=AL (kept (xF g)) (kept (xF v'))
 refine⟨(kept (xF g)).foldl eN (kept (xF v')),?_,?_,by omega⟩
 ·exact aw d1 (aw (BC d3) (aw p1 (aw (BC hg) (aw p3 rfl))))
 ·exact aw d2 (aw (IB d3) (aw (IB hg) (aw (abD _ _ (by unfold room;omega)) rfl)))
theorem P3{l:List Int}{n:Int}(h:n∈kept l):1<=n/\n<=4096:=by
 unfold kept gone at h
 have:=(List.mem_filter.1 h).2
 simp at this
 exact⟨by omega,by omega⟩
theorem Qk:∀{xs l:List Int}{m:Int},m∈xs.foldl eN l->m∈l\/m∈xs
 |[],l,m,h=>.inl h
 |x::xs,l,m,h=>by
  rw[List.foldl_cons]at h
  rcases Qk h with h|h
  ·unfold eN at h
   split at h
   ·exact .inl h
   ·rcases List.mem_append.1 h with h|h
    ·exact .inl h
    ·rw[List.mem_singleton.1 h];exact .inr List.mem_cons_self
  ·exact .inr (List.mem_cons_of_mem _ h)
theorem Wp{v g:aa}(h:ks v)(hg:ks g):∃l:List Int,gy v g=some l/\∀m∈l,1<=m/\m<=4096:=by
 obtain⟨v',d1,d2,d3⟩:=drop_eq h (ar.mk [80,97,114,101,110,116])
 have l1:=sB (xF v')
 have l2:=sB (xF g)
 have l3:=tJ d3
 have l4:=tJ hg
 have hnd:(kept (xF v')).Nodup:=(qS 302 v' [] List.nodup_nil).filter _
 have e0:(kept (xF v')).foldl eN []=kept (xF v'):=Gn _ [] (by simpa using hnd)
 obtain⟨m1,p1,p2⟩:=put_eq [] [] (kept (xF v')) (fun k=>rfl) (by unfold room;simp only[List.length_nil];omega)
 rw[e0]at p1 p2
 obtain⟨m2,p3,p4⟩:=put_eq m1 (kept (xF v')) (kept (xF g)) p2 (by unfold room;omega)
 refine⟨(kept (xF g)).foldl eN (kept (xF v')),aw d1 (aw (BC d3) (aw p1 (aw (BC hg) (aw p3 rfl)))),fun m hm=>?_⟩
 rcases Qk hm with hm|hm
 ·exact P3 hm
 ·exact P3 hm
end Go.AB
end
section
namespace Go.AB
open Go
def sX(v:aa):Prop:=W 300 v/\oY 300 v<=300
theorem sX.wide{v:aa}(h:sX v):ks v:=⟨FM _ _ _ (by decide) h.1,by rw[O9 300 302 v (by decide) h.1];have:=h.2;omega⟩
theorem aj6(v:aa):∃r,fQ iu v 300=some r/\(0<=r->sX v):=by
 obtain⟨r,h1,h2,h3,h4⟩:=few iu v 300 (by decide) (by decide) (by decide)
 refine⟨r,h1,fun h=>?_⟩
 obtain⟨h5,h6⟩:=h4 h
 exact⟨h5,by have:(oY 300 v:Int)<=300 -r:=h6;omega⟩
theorem Ij(o:af)(n:Int):∃b,ly o n=some b/\(b=true->sX o.V):=by
 obtain⟨r,h1,h4⟩:=aj6 o.V
 unfold ly
 rw[h1,aK]
 by_cases hc:((decide (r>=0))&&(decide ((o.Data.b.length:Int)<=n)))=true
 ·have hr:0<=r:=by simp at hc;exact hc.1
  obtain⟨b,hb⟩:=texts 300 o.V iu (h4 hr).1 (by decide) (by decide)
  rw[hc,T8,hb,aK]
  exact⟨_,rfl,fun _=>h4 hr⟩
 ·have hc':((decide (r>=0))&&(decide ((o.Data.b.length:Int)<=n)))=false:=by simpa using hc
  rw[hc',T7,aK]
  exact⟨_,rfl,fun h=>by cases h⟩
theorem Zg(l:List af)(qf:Int)(hm:qf<=1000):∃b,lA l qf=some b/\(b=true->(l.length:Int)<=qf/\∀o∈l,sX o.V):=by
 unfold lA
 by_cases hl:(l.length:Int)>qf
 ·rw[if_pos (by simpa using hl)]
  exact⟨false,rfl,fun h=>by cases h⟩
 rw[if_neg (by simpa using hl)]
 have key:∃o:Unit⊕Bool,iter (fun(k2:Int)=>
  if decide (k2<(l.length:Int))then
   aB (0<=k2/\k2<l.length)<|
   aJ (ly (ix l k2) 300) fun r4=>
   if !r4 then
    some (.inr (.inr false))
   else
    some (.inl (bd (k2+1)))
  else
   some (.inr (.inl ()))) 0=some o/\((o=.inl ()/\∀o∈l,sX o.V)\/o=.inr false):=by
  refine ma (fun k=>∃j:Nat,k=(j:Int)/\j<=l.length/\∀i(h:i<j)(h':i<l.length),sX (l[i]).V) (fun k=>((l.length:Int) -k).toNat) _ ⟨0,rfl,Nat.zero_le _,fun i h=>absurd h (Nat.not_lt_zero i)⟩ (by show((l.length:Int) -0).toNat<_;omega) ?_
  rintro k ⟨j,rfl,hj,hi⟩
  by_cases hjl:j<l.length
  ·obtain⟨b,h1,h2⟩:=Ij (ix l (j:Int)) 300
   rw[if_pos (by simpa using hjl),dE ⟨by omega,by omega⟩,h1,aK]
   cases b with
   |false=>exact⟨_,rfl,.inr rfl⟩
   |true=>
    refine⟨_,rfl,?_⟩
    show(∃j':Nat,bd ((j:Int)+1)=(j':Int)/\_)/\_
    rw[aI (by omega) (by omega)]
    refine⟨⟨j+1,by omega,by omega,fun i h h'=>?_⟩,by omega⟩
    rcases Nat.lt_or_ge i j with hij|hij
    ·exact hi i hij h'
    ·have:i=j:=by omega
     subst this
     rw[fu hjl]at h2
     exact h2 rfl
  ·rw[if_neg (by simpa using hjl)]
   refine⟨_,rfl,.inl ⟨rfl,fun o ho=>?_⟩⟩
   obtain⟨i,h,rfl⟩:=List.getElem_of_mem ho
   exact hi i (by omega) h
 obtain⟨o,h1,h2⟩:=key
 rw[h1]
 rcases h2 with⟨rfl,h2⟩|rfl
 ·exact⟨true,rfl,fun _=>⟨by omega,h2⟩⟩
 ·exact⟨false,rfl,fun h=>by cases h⟩
structure DV where
 B:Nat
 aS:aD
def DV.v(f:DV):nz:=Ep f.B f.aS
def ay(d:aD)(n:Int):af:=if(decide (n<1))||(decide (n>(d.ak.length:Int)))then zb else ix d.ak (n -1)
structure jg(d:aD):Prop where
 len:d.ak.length<=1000
 w:∀o∈d.ak,sX o.V
theorem jg.acL{d:aD}(h:jg d)(n:Int):sX (ay d n).V:=by
 unfold ay
 split
 ·exact⟨⟨Nat.zero_le _,fun x hx=>by cases hx⟩,by decide⟩
 ·rename_i hc
  simp at hc
  rw[oP (by omega)]
  exact h.w _ (List.getElem_mem _)
theorem jg.get{d:aD}(h:jg d)(n:Int):ks (ay d n).V:=(h.acL n).wide
theorem L4(f:DV)(n:Int)(h:jg f.aS):fN f.v n=some (ay f.aS n,0,0):=by
 have hl:=h.len
 show vg f.aS n=_
 unfold vg ay
 by_cases hc:((decide (n<1))||(decide (n>(f.aS.ak.length:Int))))=true
 ·rw[if_pos hc,if_pos hc]
 ·rw[if_neg hc,if_neg hc]
end Go.AB
end
section
namespace Go.AB
open Go
def news(d:aD)(g:aa)(k:Nat)(n:Int):List Int:=if k=0 then(match gy (ay d n).V g with|some l=>l|none=>[])else kept (xF (ay d n).V)
def inR(n:Int):Prop:=1<=n/\n<=4096
theorem ZB{l:List Int}{n:Int}(h:n∈kept l):inR n:=by
 unfold kept gone at h
 have:=(List.mem_filter.1 h).2
 simp at this
 exact⟨by omega,by omega⟩
theorem VJ{l:List Int}{n m:Int}:m∈eN l n↔m∈l\/m=n:=by
 unfold eN
 cases h:l.contains n with
 |true=>
  simp only[if_true]
  constructor
  ·exact .inl
  ·rintro(h1|rfl)
   ·exact h1
   ·simpa using h
 |false=>simp
theorem PC:∀{xs l:List Int}{m:Int},m∈xs.foldl eN l↔m∈l\/m∈xs
 |[],l,m=>by simp
 |x::xs,l,m=>by rw[List.foldl_cons,PC (xs:=xs),VJ,List.mem_cons,or_assoc]
theorem Gp:∀{xs l:List Int},l.Nodup->(xs.foldl eN l).Nodup
 |[],_,h=>h
 |x::xs,l,h=>by rw[List.foldl_cons];exact Gp (FP h x)
theorem OT(l:List Int)(n:Int):l<+:eN l n:=by
 unfold eN
 cases l.contains n with
 |true=>exact List.prefix_refl _
 |false=>exact List.prefix_append ..
theorem DL:∀(xs l:List Int),l<+:xs.foldl eN l
 |[],l=>List.prefix_refl _
 |x::xs,l=>by rw[List.foldl_cons];exact(OT l x).trans (DL xs _)
theorem AJ(c:Int):∀l:List Int,(l.filter fun m=>m !=c).length+l.count c=l.length
 |[]=>rfl
 |a::l=>by
  have ih:=AJ c l
  rw[List.filter_cons,List.count_cons]
  by_cases e:a=c
  ·subst e;simp;omega
  ·have e1:(a !=c)=true:=by simpa using e
   have e2:(a==c)=false:=by simpa using e
   rw[e1,e2];simp;omega
theorem LD:∀(n:Nat)(l:List Int),l.Nodup->(∀m∈l,1<=m/\m<=(n:Int))->l.length<=n
 |0,[],_,_=>by simp
 |0,a::l,_,h=>by have:=h a List.mem_cons_self;omega
 |n+1,l,hn,h=>by
  obtain⟨c,hc⟩:∃c:Int,c=((n+1:Nat):Int):=⟨_,rfl⟩
  have h1:(l.filter fun m=>m !=c).length<=n:=LD n _ (hn.filter _) fun m hm=>by
   have h2:=List.mem_filter.1 hm
   have h3:=h m h2.1
   have h4:m≠c:=by simpa using h2.2
   omega
  have h2:=AJ c l
  have h3:=List.nodup_iff_count.1 hn c
  omega
def dB(d:aD)(g:aa)(p:Int):Nat->List Int
 |0=>[p]
 |k+1=>if k<(dB d g p k).length then(news d g k ((dB d g p k).getD k 0)).foldl eN (dB d g p k)else dB d g p k
theorem qV(d:aD)(g:aa)(p:Int)(k:Nat):dB d g p k<+:dB d g p (k+1):=by
 rw[dB]
 split
 ·exact DL ..
 ·exact List.prefix_refl _
theorem LR(d:aD)(g:aa)(p:Int):∀(j k:Nat),k<=j->dB d g p k<+:dB d g p j
 |0,k,h=>by obtain rfl:k=0:=by omega
            exact List.prefix_refl _
 |j+1,k,h=>by
  by_cases e:k=j+1
  ·subst e;exact List.prefix_refl _
  ·exact(LR d g p j k (by omega)).trans (qV ..)
theorem Aa(d:aD)(g:aa)(p:Int):∀k,(dB d g p k).Nodup
 |0=>by simp[dB]
 |k+1=>by
  rw[dB]
  split
  ·exact Gp (Aa d g p k)
  ·exact Aa d g p k
theorem ZL{d:aD}{g:aa}(hd:jg d)(hg:ks g){k:Nat}{n m:Int}(h:m∈news d g k n):inR m:=by
 unfold news at h
 split at h
 ·obtain⟨v',d1,d2,d3⟩:=drop_eq (hd.get n) (ar.mk [80,97,114,101,110,116])
  have hnd:(kept (xF v')).Nodup:=(qS 302 v' [] List.nodup_nil).filter _
  obtain⟨l,f1,f2⟩:=Wp (hd.get n) hg
  rw[f1]at h
  exact f2 m h
 ·exact ZB h
theorem NP{d:aD}{g:aa}(hd:jg d)(hg:ks g)(p:Int):∀k,∀m∈dB d g p k,m=p\/inR m
 |0,m,h=>by simp[dB]at h;exact .inl h
 |k+1,m,h=>by
  rw[dB]at h
  split at h
  ·rcases PC.1 h with h|h
   ·exact NP hd hg p k m h
   ·exact .inr (ZL hd hg h)
  ·exact NP hd hg p k m h
theorem wQ{d:aD}{g:aa}(hd:jg d)(hg:ks g)(p:Int)(k:Nat):(dB d g p k).length<=4097:=by
 have h:=LR d g p k 0 (Nat.zero_le _)
 obtain⟨t,ht⟩:=h
 have hn:=Aa d g p k
 have hi:=NP hd hg p k
 rw[<-ht]at hn hi⊢
 have e:dB d g p 0=[p]:=rfl
 rw[e]at hn hi⊢
 rw[List.nodup_append]at hn
 have:t.length<=4096:=LD 4096 t hn.2.1 fun m hm=>by
  rcases hi m (List.mem_append_right _ hm)with h|h
  ·exact(hn.2.2 p List.mem_cons_self m hm h.symm).elim
  ·exact h
 simp;omega
theorem Vf{d:aD}{g:aa}(hd:jg d)(hg:ks g)(p:Int):∃n,n<=4097/\(dB d g p n).length=n/\∀k,k<n->k<(dB d g p k).length:=by
 apply Classical.byContradiction
 intro hno
 have key:∀n,n<=4098->∀k,k<n->k<(dB d g p k).length:=by
  intro n
  induction n with
  |zero=>intro _ k h;omega
  |succ n ih=>
   intro hn k hk
   by_cases e:k<n
   ·exact ih (by omega) k e
   ·obtain rfl:k=n:=by omega
    apply Classical.byContradiction
    intro hge
    have hle:k<=(dB d g p k).length:=by
     cases k with
     |zero=>omega
     |succ k=>
      have h1:=ih (by omega) k (by omega)
      have h2:=(qV d g p k).length_le
      omega
    exact hno ⟨k,by have:=wQ hd hg p k;omega,by omega,ih (by omega)⟩
 have h1:=key 4098 (Nat.le_refl _) 4097 (by omega)
 have h2:=wQ hd hg p 4097
 omega
def lM(d:aD)(l:List Int):List af:=l.map (ay d)
theorem TK{d:aD}{g:aa}(hd:jg d)(hg:ks g)(k:Nat)(n:Int):(news d g k n).length<=2600:=by
 unfold news
 split
 ·obtain⟨l,f1,f2,f3⟩:=Gk (hd.get n) hg
  rw[f1];exact f3
 ·have:=sB (xF (ay d n).V)
  have:=tJ (hd.get n)
  omega
theorem Rz(f:DV)(x:aO)(h:jg f.aS)(hg:ks x.ag):∃n,n<=4097/\(dB f.aS x.ag x.cQ n).length=n/\(∀k,k<n->k<(dB f.aS x.ag x.cQ k).length)/\
 fL f.v x=some (dB f.aS x.ag x.cQ n,lM f.aS (dB f.aS x.ag x.cQ n),0,0):=by
 obtain⟨n,h1,h2,h3⟩:=Vf h hg x.cQ
 refine⟨n,h1,h2,h3,?_⟩
 obtain⟨m0,p1,p2⟩:=put_eq [] [] [x.cQ] (fun k=>rfl) (by unfold room;simp)
 unfold fL
 refine aw p1 ?_
 have b9:∀(r k:Nat),k+r=n->∀m,InL m (dB f.aS x.ag x.cQ k)->∃m',uO (fun((lu,o12):(List af)×bN)=>
  if decide ((lu.length:Int)<(o12.l_.length:Int))then
   aB (0<=(lu.length:Int)/\(lu.length:Int)<o12.l_.length)<|
   aJ (fN f.v (ix o12.l_ (lu.length:Int))) fun r22=>
   if r22.2.2 !=0 then
    some (.inr (.inr (([]:List Int),([]:List af),r22.2.1,r22.2.2,o12)))
   else
    jn (
     if(lu.length:Int)==0 then
      aJ (gy r22.1.V x.ag) fun r28=>
      aJ (cz o12 r28) fun r29=>
      some r29
     else
      aJ (fU r22.1.V) fun r30=>
      aJ (cz o12 r30) fun r31=>
      some r31) fun(o27:bN)=>
    aB ((lu.length+[r22.1].length)*80<=room)<|
    some (.inl (lu++[r22.1],o27))
  else
   some (.inr (.inl (lu,o12)))) (r+1) (lM f.aS ((dB f.aS x.ag x.cQ k).take k),⟨dB f.aS x.ag x.cQ k,m⟩)
  ((.inl (lM f.aS (dB f.aS x.ag x.cQ n),(⟨dB f.aS x.ag x.cQ n,m'⟩:bN))):((List af)×bN)⊕((List Int)×(List af)×Int×Int×bN)):=by
  intro r
  induction r with
  |zero=>
   intro k hk m _
   obtain rfl:k=n:=by omega
   refine⟨m,.stop ?_⟩
   have e:(dB f.aS x.ag x.cQ k).take k=dB f.aS x.ag x.cQ k:=List.take_of_length_le (by omega)
   rw[e]
   refine az ?_ rfl
   simp[lM]
  |succ r ih=>
   intro k hk m hm
   have hkl:=h3 k (by omega)
   have hrl:=wQ h hg x.cQ k
   generalize hR:dB f.aS x.ag x.cQ k=R at hkl hm hrl
   have hlen:(lM f.aS (R.take k)).length=k:=by simp[lM];omega
   have hix:ix R (k:Int)=R[k]:=fu hkl
   have hgd:R.getD k 0=R[k]:=by simp[List.getD_eq_getElem?_getD,hkl]
   have hnl:=TK h hg k R[k]
   have Tz:dB f.aS x.ag x.cQ (k+1)=(news f.aS x.ag k R[k]).foldl eN R:=by rw[dB,hR,if_pos hkl,hgd]
   obtain⟨m1,q1,q2⟩:=put_eq m R (news f.aS x.ag k R[k]) hm (by unfold room;omega)
   obtain⟨m',q3⟩:=ih (k+1) (by omega) m1 (by rw[Tz];exact q2)
   refine⟨m',.step (t:=(lM f.aS ((dB f.aS x.ag x.cQ (k+1)).take (k+1)),⟨dB f.aS x.ag x.cQ (k+1),m1⟩)) ?_ q3⟩
   have WY:lM f.aS ((dB f.aS x.ag x.cQ (k+1)).take (k+1))=lM f.aS (R.take k)++[ay f.aS R[k]]:=by
    have hp:=qV f.aS x.ag x.cQ k
    rw[hR]at hp
    obtain⟨t,ht⟩:=hp
    rw[<-ht,List.take_append_of_le_length (by omega),List.take_succ_eq_append_getElem hkl]
    exact List.map_append
   rw[WY,Tz]
   dsimp only
   rw[hlen]
   refine aL (decide_eq_true (by omega)) (au ⟨by omega,by omega⟩ (aw (L4 f _ h) (az (by simp) ?_)))
   rw[hix]
   refine iV (a:=⟨(news f.aS x.ag k R[k]).foldl eN R,m1⟩) ?_ (au (by unfold room;simp only[List.length_cons,List.length_nil];omega) rfl)
   by_cases hk0:k=0
   ·subst hk0
    obtain⟨l,f1,f2,f3⟩:=Gk (h.get R[0]) hg
    have e:news f.aS x.ag 0 R[0]=l:=by unfold news;rw[if_pos rfl,f1]
    rw[e]at q1⊢
    exact aL (by simp) (aw f1 (aw q1 rfl))
   ·have e:news f.aS x.ag k R[k]=kept (xF (ay f.aS R[k]).V):=by unfold news;rw[if_neg hk0]
    rw[e]at q1⊢
    exact az (by simp;omega) (aw (BC (h.get _)) (aw q1 rfl))
 obtain⟨m',hr⟩:=b9 n 0 (by omega) m0 p2
 refine en (z:=(.inl (lM f.aS (dB f.aS x.ag x.cQ n),⟨dB f.aS x.ag x.cQ n,m'⟩))) ?_ rfl
 refine dK (z:=(.inl (lM f.aS (dB f.aS x.ag x.cQ n),⟨dB f.aS x.ag x.cQ n,m'⟩))) ?_ rfl
 exact hr.iter (by omega)
def nJ(d:aD):dH:=dH.mk d.ak (nh.mk ([]:List UInt8) ([]:List Bool)) (lz.mk ([]:List Int) d.cM)
theorem tH(d:aD)(n:Int)(h:jg d):eD (nJ d) n=some (ay d n,0,0):=by
 have hl:=h.len
 unfold eD ay
 by_cases hc:((decide (n<1))||(decide (n>(d.ak.length:Int))))=true
 ·rw[if_pos hc];exact aL hc rfl
 ·rw[if_neg hc]
  refine az hc ?_
  simp at hc
  rw[aI (by omega) (by omega)]
  exact au (by show 0<=n -1/\n -1<(d.ak.length:Int);omega) rfl
theorem QB(d:aD)(x:bH)(h:jg d)(hg:ks x.ag){n:Nat}(h1:n<=4097)(h2:(dB d x.ag x.cQ n).length=n)(h3:∀k,k<n->k<(dB d x.ag x.cQ k).length):
 fM (nJ d) x=some (dB d x.ag x.cQ n,lM d (dB d x.ag x.cQ n),0,0):=by
 unfold fM
 refine en (z:=(.inl (dB d x.ag x.cQ n,lM d (dB d x.ag x.cQ n)))) ?_ rfl
 refine dK (z:=(.inl (dB d x.ag x.cQ n,lM d (dB d x.ag x.cQ n)))) ?_ rfl
 refine ln n (fun k=>(dB d x.ag x.cQ k,lM d ((dB d x.ag x.cQ k).take k),(k:Int))) rfl (by omega) (fun k hk=>?_) ?_
 ·have hkl:=h3 k hk
  have hrl:=wQ h hg x.cQ k
  have hp:=qV d x.ag x.cQ k
  generalize hR:dB d x.ag x.cQ k=R at hkl hrl hp
  have hlen:(lM d (R.take k)).length=k:=by simp[lM];omega
  have hix:ix R (k:Int)=R[k]:=fu hkl
  have hgd:R.getD k 0=R[k]:=by simp[List.getD_eq_getElem?_getD,hkl]
  have hnl:=TK h hg k R[k]
  have Tz:dB d x.ag x.cQ (k+1)=(news d x.ag k R[k]).foldl eN R:=by rw[dB,hR,if_pos hkl,hgd]
  have WY:lM d ((dB d x.ag x.cQ (k+1)).take (k+1))=lM d (R.take k)++[ay d R[k]]:=by
   obtain⟨t,ht⟩:=hp
   rw[<-ht,List.take_append_of_le_length (by omega),List.take_succ_eq_append_getElem hkl]
   exact List.map_append
  have hw:bd ((k:Int)+1)=((k+1:Nat):Int):=by rw[aI (by omega) (by omega)];omega
  dsimp only
  rw[WY,Tz,<-hw]
  refine aL (decide_eq_true (by omega)) (au ⟨by omega,by omega⟩ (aw (tH d _ h) (az (by simp) ?_)))
  rw[hix]
  have hon:=abD R (news d x.ag k R[k]) (by unfold room;omega)
  refine iV (a:=(news d x.ag k R[k]).foldl eN R) ?_ (au (by dsimp only;rw[hlen];unfold room;simp only[List.length_cons,List.length_nil];omega) rfl)
  by_cases hk0:k=0
  ·subst hk0
   obtain⟨l,f1,f2,f3⟩:=Gk (h.get R[0]) hg
   have e:news d x.ag 0 R[0]=l:=by unfold news;rw[if_pos rfl,f1]
   rw[e]at hon⊢
   exact aL (by simp) (aw f2 (aw hon rfl))
  ·have e:news d x.ag k R[k]=kept (xF (ay d R[k]).V):=by unfold news;rw[if_neg hk0]
   rw[e]at hon⊢
   exact az (by simp;omega) (aw (IB (h.get _)) (aw hon rfl))
 ·have e:(dB d x.ag x.cQ n).take n=dB d x.ag x.cQ n:=List.take_of_length_le (by omega)
  rw[e]
  refine az ?_ rfl
  simp;omega
end Go.AB
end
section
namespace Go.AB
open Go
theorem afX{v:aa}{n:Nat}(h:W n v):(v.L.length:Int)<=n:=by
 cases n with
 |zero=>exact h.elim
 |succ n=>have:=h.1;omega
theorem Yr(o:af)(name:ar)(h:(o.V.L.length:Int)<=4611686018427387904):∃t,dJ o name=some t/\dY o name=some t:=by
 obtain⟨r,hr⟩:=w7 o.V (ar.mk [84,121,112,101]) h
 unfold dJ dY
 rw[BN _ _ h,hr,aK,aK]
 refine⟨_,rfl,?_⟩
 cases h2:r.2 with
 |true=>simp
 |false=>
  have:=Oj _ _ _ hr h2
  rw[this];simp
def jX(l:List aa):Bool:=l.all fun x=>x.Kind==8
def CW(l:List aa):List Int:=l.map fun x=>x.N
theorem VG{v:aa}{n:Nat}{key:ar}{r:aa×Bool}(hw:W (n+1) v)(h:bc v key=some r):(r.1.L.length:Int)<=n:=by
 unfold bc at h
 cases hf:c6 v key with
 |none=>rw[hf]at h;cases h
 |some i=>
  rw[hf,aK]at h
  split at h
  ·injection h with h;subst h;simp
  ·split at h
   ·injection h with h;subst h;simp
   ·unfold aB at h
    split at h
    ·rename_i hb
     injection h with h;subst h
     show((ix v.L _).L.length:Int)<=n
     rw[oP (by omega)]
     have:=hw.2 _ (List.getElem_mem (l:=v.L) (n:=(bd (i+1)).toNat) (by omega))
     cases n with
     |zero=>exact this.elim
     |succ n=>have:=this.1;omega
    ·cases h
theorem w5(l:List aa)(k:Nat)(h:k<l.length):CW (l.take (k+1))=CW (l.take k)++[(ix l (k:Int)).N]:=by unfold CW;rw[List.take_add_one,List.map_append,fu h];simp[h]
theorem y6(l:List aa)(k:Nat)(h:k<l.length):jX (l.take (k+1))=(jX (l.take k)&&((ix l (k:Int)).Kind==8)):=by unfold jX;rw[List.take_add_one,List.all_append,fu h];simp[h]
theorem DC(l:List aa)(k:Nat)(h:k<l.length)(hk:((ix l (k:Int)).Kind==8)=false):jX l=false:=by
 cases ha:jX l with
 |false=>rfl
 |true=>
  have:=List.all_eq_true.1 ha _ (List.getElem_mem h)
  rw[fu h]at hk
  rw[hk]at this;cases this
theorem UU(l:List aa)(n c:Int)(v:aa)(h:(l.length:Int)<=300):
 ∃o:aG⊕aG×Bool,iter (fun((x9,t10):aG×Int)=>
  if decide (t10<(l.length:Int))then
   aB (0<=t10/\t10<l.length)<|
   if((ix l t10).Kind)!=8 then
    some (.inr (.inr (x9,false)))
   else
    aB ((x9.dR.length+[(ix l t10).N].length)*8<=room)<|
    some (.inl ((aG.mk x9.n_ x9.v_ (x9.dR++[(ix l t10).N]) x9.eS),bd (t10+1)))
  else
   some (.inr (.inl x9))) ((aG.mk n v ([]:List Int) c),0)=some o/\((jX l=true/\o=.inl ⟨n,v,CW l,c⟩)\/(jX l=false/\∃x,o=.inr (x,false))):=by
 refine ma (fun s=>∃k:Nat,s.2=(k:Int)/\k<=l.length/\s.1=⟨n,v,CW (l.take k),c⟩/\jX (l.take k)=true) (fun s=>((l.length:Int) -s.2).toNat) _ ⟨0,rfl,Nat.zero_le _,rfl,rfl⟩ (by show((l.length:Int) -0).toNat<_;omega) ?_
 rintro⟨x,t⟩ ⟨k,h1,h2,h3,h4⟩
 simp only at h1 h3
 subst h1 h3
 by_cases hl:k<l.length
 ·have e:decide ((k:Int)<(l.length:Int))=true:=by simp;exact hl
  simp only[e,if_true]
  rw[dE ⟨by omega,by omega⟩]
  cases hk:((ix l (k:Int)).Kind==8)with
  |false=>
   have hk':((ix l (k:Int)).Kind !=8)=true:=by rw[bne,hk];rfl
   simp only[hk',if_true]
   exact⟨_,rfl,.inr ⟨DC l k hl hk,_,rfl⟩⟩
  |true=>
   have hk':((ix l (k:Int)).Kind !=8)=false:=by rw[bne,hk];rfl
   have hn:(CW (l.take k)).length=k:=by unfold CW;simp;omega
   simp only[hk',Bool.false_eq_true,if_false]
   rw[dE (by rw[hn];unfold room;simp;omega)]
   refine⟨_,rfl,?_⟩
   rw[aI (by omega) (by omega)]
   exact⟨⟨k+1,by show(k:Int)+1=_;omega,hl,by rw[w5 l k hl],by rw[y6 l k hl,h4,hk];rfl⟩,by show((l.length:Int) -((k:Int)+1)).toNat<((l.length:Int) -(k:Int)).toNat;omega⟩
 ·have e:decide ((k:Int)<(l.length:Int))=false:=by simp;omega
  simp only[e,Bool.false_eq_true,if_false]
  have hk:l.take k=l:=List.take_of_length_le (by omega)
  rw[hk]at h4⊢
  exact⟨_,rfl,.inl ⟨h4,rfl⟩⟩
def Ve(l:List aa):List Int⊕Int×List Int×Bool:=if jX l=true then .inl (CW l)else .inr (0,[],false)
theorem Xn(l:List aa)(h:(l.length:Int)<=300):
 ∃o:List Int⊕Int×List Int×Bool,iter (fun((pq,k10):(List Int)×Int)=>
  if decide (k10<(l.length:Int))then
   aB (0<=k10/\k10<l.length)<|
   if((ix l k10).Kind)!=8 then
    some (.inr (.inr ((0:Int),([]:List Int),false)))
   else
    aB (0<=k10/\k10<l.length)<|
    aB ((pq.length+[(ix l k10).N].length)*8<=room)<|
    some (.inl (pq++[(ix l k10).N],bd (k10+1)))
  else
   some (.inr (.inl pq))) (([]:List Int),0)=some o/\o=Ve l:=by
 refine ma (fun s=>∃k:Nat,s.2=(k:Int)/\k<=l.length/\s.1=CW (l.take k)/\jX (l.take k)=true) (fun s=>((l.length:Int) -s.2).toNat) _ ⟨0,rfl,Nat.zero_le _,rfl,rfl⟩ (by show((l.length:Int) -0).toNat<_;omega) ?_
 rintro⟨x,t⟩ ⟨k,h1,h2,h3,h4⟩
 simp only at h1 h3
 subst h1 h3
 by_cases hl:k<l.length
 ·have e:decide ((k:Int)<(l.length:Int))=true:=by simp;exact hl
  simp only[e,if_true]
  rw[dE ⟨by omega,by omega⟩]
  cases hk:((ix l (k:Int)).Kind==8)with
  |false=>
   have hk':((ix l (k:Int)).Kind !=8)=true:=by rw[bne,hk];rfl
   simp only[hk',if_true]
   exact⟨_,rfl,by show _=Ve l;unfold Ve;rw[DC l k hl hk];rfl⟩
  |true=>
   have hk':((ix l (k:Int)).Kind !=8)=false:=by rw[bne,hk];rfl
   have hn:(CW (l.take k)).length=k:=by unfold CW;simp;omega
   simp only[hk',Bool.false_eq_true,if_false]
   rw[dE ⟨by omega,by omega⟩,dE (by rw[hn];unfold room;simp;omega)]
   refine⟨_,rfl,?_⟩
   rw[aI (by omega) (by omega)]
   exact⟨⟨k+1,by show(k:Int)+1=_;omega,hl,by rw[w5 l k hl],by rw[y6 l k hl,h4,hk];rfl⟩,by show((l.length:Int) -((k:Int)+1)).toNat<((l.length:Int) -(k:Int)).toNat;omega⟩
 ·have e:decide ((k:Int)<(l.length:Int))=false:=by simp;omega
  simp only[e,Bool.false_eq_true,if_false]
  have hk:l.take k=l:=List.take_of_length_le (by omega)
  rw[hk]at h4⊢
  exact⟨_,rfl,by show _=Ve l;unfold Ve;rw[h4];rfl⟩
end Go.AB
end
section
namespace Go.AB
open Go
abbrev zeroV:aa:=aa.mk 0 0 (ar.mk []) ([]:List aa)
def ox:List (ar×aa)->List aa
 |[]=>[]
 |p::G=>⟨5,0,p.1,[]⟩::p.2::ox G
theorem nI:∀G:List (ar×aa),(ox G).length=2*G.length
 |[]=>rfl
 |p::G=>by rw[ox,List.length_cons,List.length_cons,nI G,List.length_cons];omega
theorem Pn:∀(G:List (ar×aa))(i:Nat)(h:i<G.length),(ox G).getD (2*i) zeroV=⟨5,0,(G[i]).1,[]⟩
 |p::G,0,_=>rfl
 |p::G,i+1,h=>by
  show(⟨5,0,p.1,[]⟩::p.2::ox G).getD (2*i+1+1) zeroV=_
  rw[List.getD_cons_succ,List.getD_cons_succ]
  exact Pn G i (by simpa using h)
theorem Xc{G:List (ar×aa)}{i:Nat}(h:i<G.length):ix (ox G) (((2*i:Nat)):Int)=⟨5,0,(G[i]).1,[]⟩:=Pn G i h
def xO(G:List (ar×aa))(p:ar->Bool):Option Nat:=G.findIdx? fun x=>p x.1
theorem L6{G:List (ar×aa)}{p:ar->Bool}{i:Nat}(h:xO G p=some i):i<G.length:=by
 unfold xO at h
 obtain⟨h,_⟩:=List.findIdx?_eq_some_iff_getElem.1 h
 exact h
theorem HH{O:Type}(G:List (ar×aa))(p:ar->Bool)(hl:G.length<=1000)(a:Nat->O)(b:O)(body:Int->Option (Int⊕O))
 (hb:∀i(h:i<G.length),body ((2*i:Nat):Int)=some (if p (G[i]).1 then .inr (a i)else .inl (bd (((2*i:Nat):Int)+2))))(he:body ((2*G.length:Nat):Int)=some (.inr b)):
 iter body 0=some (match xO G p with|some i=>a i|none=>b):=by
 cases hx:xO G p with
 |none=>
  unfold xO at hx
  rw[List.findIdx?_eq_none_iff]at hx
  refine ln G.length (fun k=>((2*k:Nat):Int)) rfl (by omega) (fun k hk=>?_) he
  rw[hb k hk,hx _ (List.getElem_mem hk),if_neg (by simp),aI (by omega) (by omega)]
  congr 2
 |some i=>
  unfold xO at hx
  obtain⟨h1,h2,h3⟩:=List.findIdx?_eq_some_iff_getElem.1 hx
  refine ln i (fun k=>((2*k:Nat):Int)) rfl (by omega) (fun k hk=>?_) ?_
  ·rw[hb k (by omega),if_neg (by simpa using h3 k hk),aI (by omega) (by omega)]
   congr 2
  ·rw[hb i h1,if_pos h2]
def fI(G:List (ar×aa)):aa:=⟨7,0,⟨[]⟩,ox G⟩
theorem K4(G:List (ar×aa))(key:ar)(hl:G.length<=1000):c6 (fI G) key=some (match xO G (fun k=>k.b==key.b)with|some i=>((2*i:Nat):Int)|none=>-1):=by
 unfold c6
 rw[if_neg (by simp[fI])]
 have hlen:(fI G).L.length=2*G.length:=nI G
 rw[HH (O:=Unit⊕Int) G (fun k=>k.b==key.b) hl (fun i=>.inr ((2*i:Nat):Int)) (.inl ()) _ ?_ ?_]
 ·cases xO G (fun k=>k.b==key.b)<;>rfl
 ·intro i h
  have hk:ix (fI G).L ((2*i:Nat):Int)=⟨5,0,(G[i]).1,[]⟩:=Xc h
  have hc:decide (((2*i:Nat):Int)<((fI G).L.length:Int))=true:=by rw[hlen];simp;omega
  simp only[hc,if_true]
  rw[dE (by rw[hlen];omega),dE (fun _=>by rw[hlen];omega),hk]
  cases h5:((G[i]).1.b==key.b)<;>simp[h5]
 ·have hc:decide (((2*G.length:Nat):Int)<((fI G).L.length:Int))=false:=by rw[hlen];simp
  simp only[hc,Bool.false_eq_true,if_false]
theorem SE(G:List (ar×aa))(key:ar)(hl:G.length<=1000):oj (fI G) key=some (match xO G (fun k=>!((Op.bytesLess k.b key.b)||(k.b==key.b)))with|some i=>((2*i:Nat):Int)|none=>((2*G.length:Nat):Int)):=by
 unfold oj
 have hlen:(fI G).L.length=2*G.length:=nI G
 rw[HH (O:=Int) G (fun k=>!((Op.bytesLess k.b key.b)||(k.b==key.b))) hl (fun i=>((2*i:Nat):Int)) ((2*G.length:Nat):Int) _ ?_ ?_]
 ·intro i h
  have hk:ix (fI G).L ((2*i:Nat):Int)=⟨5,0,(G[i]).1,[]⟩:=Xc h
  have hc:decide (((2*i:Nat):Int)<((fI G).L.length:Int))=true:=by rw[hlen];simp;omega
  simp only[hc,if_true]
  rw[dE (by rw[hlen];omega),dE (fun _=>by rw[hlen];omega),hk]
  cases h5:(!((Op.bytesLess (G[i]).1.b key.b)||((G[i]).1.b==key.b)))<;>simp[h5]
 ·have hc:decide (((2*G.length:Nat):Int)<((fI G).L.length:Int))=false:=by rw[hlen];simp
  rw[if_neg (by rw[hc];simp),hlen]
end Go.AB
end
section
namespace Go.AB
open Go
def kC:ar:=ar.mk [67,114,111,112,66,111,120]
def kM:ar:=ar.mk [77,101,100,105,97,66,111,120]
def kR:ar:=ar.mk [82,101,115,111,117,114,99,101,115]
def kT:ar:=ar.mk [82,111,116,97,116,101]
structure Gv where
 c:Option aa
 m:Option aa
 r:Option aa
 t:Option aa
def HL(k:ar):Option aa->List (ar×aa)
 |none=>[]
 |some x=>[(k,x)]
def Gv.L(g:Gv):List (ar×aa):=HL kC g.c++(HL kM g.m++(HL kR g.r++HL kT g.t))
def Gv.v(g:Gv):aa:=fI g.L
theorem Gv.len(g:Gv):g.L.length<=4:=by
 obtain⟨c,m,r,t⟩:=g
 cases c<;>cases m<;>cases r<;>cases t<;>simp[Gv.L,HL]
theorem BT:100000<=room:=by decide
theorem Nq(g:Gv)(key:ar)(x y:aa)(h:(match xO g.L (fun k=>k.b==key.b)with
 |some i=>⟨7,0,⟨[]⟩,(ox g.L).take (2*i+1)++[x]++(ox g.L).drop (2*i+2)⟩
 |none=>⟨7,0,⟨[]⟩,(ox g.L).take (match xO g.L (fun k=>!((Op.bytesLess k.b key.b)||(k.b==key.b)))with|some i=>2*i|none=>2*g.L.length)++[⟨5,0,key,[]⟩,x]++(ox g.L).drop (match xO g.L (fun k=>!((Op.bytesLess k.b key.b)||(k.b==key.b)))with|some i=>2*i|none=>2*g.L.length)⟩)=y):eV g.v key x=some y:=by
 have hl:=g.len
 have cO:=BT
 have hlen:g.v.L.length=2*g.L.length:=nI g.L
 subst h
 unfold eV
 rw[if_neg (by simp[Gv.v,fI]),dE (by rw[hlen];omega),show g.v=fI g.L from rfl,K4 _ _ (by omega),SE _ _ (by omega),aK,aK]
 have oK:(fI g.L).L.length=2*g.L.length:=nI g.L
 cases h1:xO g.L (fun k=>k.b==key.b)with
 |some i=>
  have hi:=L6 h1
  have h0:decide (((2*i:Nat):Int)>=0)=true:=by simp;omega
  simp only[h0,if_true]
  rw[dE (by rw[oK];omega)]
  simp only[Int.toNat_natCast]
  rfl
 |none=>
  simp only[show decide ((-1:Int)>=0)=false by decide,Bool.false_eq_true,if_false]
  cases h2:xO g.L (fun k=>!((Op.bytesLess k.b key.b)||(k.b==key.b)))with
  |some i=>
   have hi:=L6 h2
   simp only
   rw[dE (by rw[oK];omega)]
   simp only[Int.toNat_natCast]
   rfl
  |none=>
   simp only
   rw[dE (by rw[oK];omega)]
   simp only[Int.toNat_natCast]
   rfl
theorem ahJ(g:Gv)(x:aa):eV g.v kC x=some {g with c:=some x}.v:=by
 refine Nq g kC x _ ?_
 obtain⟨c,m,r,t⟩:=g
 cases c<;>cases m<;>cases r<;>cases t<;>rfl
theorem ahK(g:Gv)(x:aa):eV g.v kM x=some {g with m:=some x}.v:=by
 refine Nq g kM x _ ?_
 obtain⟨c,m,r,t⟩:=g
 cases c<;>cases m<;>cases r<;>cases t<;>rfl
theorem ahL(g:Gv)(x:aa):eV g.v kR x=some {g with r:=some x}.v:=by
 refine Nq g kR x _ ?_
 obtain⟨c,m,r,t⟩:=g
 cases c<;>cases m<;>cases r<;>cases t<;>rfl
theorem ahM(g:Gv)(x:aa):eV g.v kT x=some {g with t:=some x}.v:=by
 refine Nq g kT x _ ?_
 obtain⟨c,m,r,t⟩:=g
 cases c<;>cases m<;>cases r<;>cases t<;>rfl
theorem Fo(g:Gv)(key:ar)(y:aa)(h:(match xO g.L (fun k=>k.b==key.b)with
 |some i=>⟨7,0,⟨[]⟩,(ox g.L).take (2*i)++(ox g.L).drop (2*i+2)⟩
 |none=>fI g.L)=y):c5 g.v key=some y:=by
 have hl:=g.len
 have cO:=BT
 subst h
 unfold c5
 rw[show g.v=fI g.L from rfl,K4 _ _ (by omega),aK]
 have oK:(fI g.L).L.length=2*g.L.length:=nI g.L
 cases h1:xO g.L (fun k=>k.b==key.b)with
 |some i=>
  have hi:=L6 h1
  have h0:decide (((2*i:Nat):Int)<0)=false:=by simp;omega
  simp only[h0,Bool.false_eq_true,if_false]
  rw[dE (by rw[oK];omega),oK]
  have:min (2*i+2) (2*g.L.length)=2*i+2:=by omega
  simp only[Int.toNat_natCast,this]
  rfl
 |none=>simp only[show decide ((-1:Int)<0)=true by decide,if_true]
theorem acA(g:Gv):c5 g.v kC=some {g with c:=none}.v:=by
 refine Fo g kC _ ?_
 obtain⟨c,m,r,t⟩:=g
 cases c<;>cases m<;>cases r<;>cases t<;>rfl
theorem acB(g:Gv):c5 g.v kM=some {g with m:=none}.v:=by
 refine Fo g kM _ ?_
 obtain⟨c,m,r,t⟩:=g
 cases c<;>cases m<;>cases r<;>cases t<;>rfl
theorem acC(g:Gv):c5 g.v kR=some {g with r:=none}.v:=by
 refine Fo g kR _ ?_
 obtain⟨c,m,r,t⟩:=g
 cases c<;>cases m<;>cases r<;>cases t<;>rfl
theorem acD(g:Gv):c5 g.v kT=some {g with t:=none}.v:=by
 refine Fo g kT _ ?_
 obtain⟨c,m,r,t⟩:=g
 cases c<;>cases m<;>cases r<;>cases t<;>rfl
def cK(v:aa)(key:ar):aa×Bool:=(bc v key).getD (zeroV,false)
def Small(v:aa):Prop:=(v.L.length:Int)<=4611686018427387904
theorem Small.ZP{n:Nat}{v:aa}(h:W n v)(hn:n<=1000):Small v:=by
 have:=afX h
 unfold Small;omega
theorem get_eq{v:aa}(h:Small v)(key:ar):bc v key=some (cK v key):=by
 obtain⟨r,hr⟩:=w7 v key h
 unfold cK;rw[hr];rfl
theorem BS{v:aa}(h:Small v)(key:ar):c9 v key=some (cK v key):=by rw[BN v key h,get_eq h]
def CY(o:Option aa)(r:aa×Bool):Option aa:=if r.2 then some r.1 else o
def oy(o:Option aa)(r:aa×Bool):Option aa:=if r.2 then none else o
def Gv.ka(g:Gv)(v:aa):Gv:=⟨CY g.c (cK v kC),CY g.m (cK v kM),CY g.r (cK v kR),CY g.t (cK v kT)⟩
def Gv.leave(g:Gv)(v:aa):Gv:=⟨oy g.c (cK v kC),oy g.m (cK v kM),oy g.r (cK v kR),oy g.t (cK v kT)⟩
def yc(g:Gv)(v:aa):Nat->Gv
 |0=>g
 |1=>{g with r:=CY g.r (cK v kR)}
 |2=>{g with r:=CY g.r (cK v kR),m:=CY g.m (cK v kM)}
 |3=>{g with r:=CY g.r (cK v kR),m:=CY g.m (cK v kM),c:=CY g.c (cK v kC)}
 |_=>g.ka v
def ru(g:Gv)(v:aa):Nat->Gv
 |0=>g
 |1=>{g with r:=oy g.r (cK v kR)}
 |2=>{g with r:=oy g.r (cK v kR),m:=oy g.m (cK v kM)}
 |3=>{g with r:=oy g.r (cK v kR),m:=oy g.m (cK v kM),c:=oy g.c (cK v kC)}
 |_=>g.leave v
def sC:Nat->ar
 |0=>kR
 |1=>kM
 |2=>kC
 |_=>kT
theorem Fu{k:Nat}(h:k<4):ix [kR,kM,kC,kT] (k:Int)=sC k:=by rcases(by omega:k=0\/k=1\/k=2\/k=3)with rfl|rfl|rfl|rfl<;>rfl
theorem UD{g:Gv}{v:aa}{k:Nat}(h:k<4)(hp:(cK v (sC k)).2=true):eV (yc g v k).v (sC k) (cK v (sC k)).1=some (yc g v (k+1)).v:=by
 rcases(by omega:k=0\/k=1\/k=2\/k=3)with rfl|rfl|rfl|rfl
 ·simp only[sC]at hp⊢;rw[ahL];simp only[yc,CY,hp,if_true]
 ·simp only[sC]at hp⊢;rw[ahK];simp only[yc,CY,hp,if_true]
 ·simp only[sC]at hp⊢;rw[ahJ];simp only[yc,CY,hp,if_true]
 ·simp only[sC]at hp⊢;rw[ahM];simp only[yc,Gv.ka,CY,hp,if_true]
theorem Wx{g:Gv}{v:aa}{k:Nat}(h:k<4)(hp:(cK v (sC k)).2=false):yc g v (k+1)=yc g v k:=by rcases(by omega:k=0\/k=1\/k=2\/k=3)with rfl|rfl|rfl|rfl<;>simp only[sC]at hp<;>simp only[yc,Gv.ka,CY,hp,Bool.false_eq_true,if_false]
theorem Sd{g:Gv}{v:aa}{k:Nat}(h:k<4)(hp:(cK v (sC k)).2=true):c5 (ru g v k).v (sC k)=some (ru g v (k+1)).v:=by
 rcases(by omega:k=0\/k=1\/k=2\/k=3)with rfl|rfl|rfl|rfl
 ·simp only[sC]at hp⊢;rw[acC];simp only[ru,oy,hp,if_true]
 ·simp only[sC]at hp⊢;rw[acB];simp only[ru,oy,hp,if_true]
 ·simp only[sC]at hp⊢;rw[acA];simp only[ru,oy,hp,if_true]
 ·simp only[sC]at hp⊢;rw[acD];simp only[ru,Gv.leave,oy,hp,if_true]
theorem UQ{g:Gv}{v:aa}{k:Nat}(h:k<4)(hp:(cK v (sC k)).2=false):ru g v (k+1)=ru g v k:=by rcases(by omega:k=0\/k=1\/k=2\/k=3)with rfl|rfl|rfl|rfl<;>simp only[sC]at hp<;>simp only[ru,Gv.leave,oy,hp,Bool.false_eq_true,if_false]
theorem Mw(g:Gv)(v:aa)(h:Small v):lG g.v v=some (g.ka v).v:=by
 unfold lG ez
 rw[aK]
 refine iV (gW (o:=(g.ka v).v) 4 (fun k=>(yc g v k).v) rfl (by decide) (fun k hk=>?_) ?_) rfl
 ·refine aL (by show decide ((k:Int)<((4:Nat):Int))=true;simp;omega) (iV (au (by show 0<=(k:Int)/\(k:Int)<((4:Nat):Int);omega) ?_) rfl)
  change aJ (bc v (ix [kR,kM,kC,kT] (k:Int))) _=_
  rw[Fu hk,get_eq h,aK]
  cases hp:(cK v (sC k)).2 with
  |true=>
   refine aL rfl ?_
   change aJ (eV _ (ix [kR,kM,kC,kT] (k:Int)) _) _=_
   rw[Fu hk,UD hk hp,aK]
  |false=>
   refine az (by simp) ?_
   rw[Wx hk hp]
 ·exact az (by decide) rfl
theorem ZC(n:Int)(fj:aa)(path:List Int)(g:Gv)(h:Small fj):lH n fj path g.v=some ⟨n,path,(g.leave fj).v⟩:=by
 unfold lH ez
 rw[aK]
 refine iV (gW (o:=(g.leave fj).v) 4 (fun k=>(ru g fj k).v) rfl (by decide) (fun k hk=>?_) ?_) rfl
 ·refine aL (by show decide ((k:Int)<((4:Nat):Int))=true;simp;omega) (iV (au (by show 0<=(k:Int)/\(k:Int)<((4:Nat):Int);omega) ?_) rfl)
  change aJ (bc fj (ix [kR,kM,kC,kT] (k:Int))) _=_
  rw[Fu hk,get_eq h,aK]
  cases hp:(cK fj (sC k)).2 with
  |true=>
   refine aL rfl ?_
   change aJ (c5 _ (ix [kR,kM,kC,kT] (k:Int))) _=_
   rw[Fu hk,Sd hk hp,aK]
  |false=>
   refine az (by simp) ?_
   rw[UQ hk hp]
 ·exact az (by decide) rfl
theorem RG:di ([]:List aa)=some (Gv.v ⟨none,none,none,none⟩):=by
 unfold di
 rfl
end Go.AB
end
section
namespace Go.AB
open Go
theorem jg.Eu{d:aD}(h:jg d)(n:Int):W 300 (ay d n).V:=(h.acL n).1
theorem jg.small{d:aD}(h:jg d)(n:Int):Small (ay d n).V:=Small.ZP (h.Eu n) (by decide)
def qa:ar:=ar.mk [80,97,103,101,115]
def D6:ar:=ar.mk [80,97,103,101]
def qL:ar:=ar.mk [75,105,100,115]
def wj:ar:=ar.mk [67,111,117,110,116]
def abq:ar:=ar.mk [84,121,112,101]
def wi:ar:=ar.mk [67,97,116,97,108,111,103]
def oE(o:af)(name:ar):Bool:=(!o.Stream&&((cK o.V abq).1.Kind==5))&&((cK o.V abq).1.S.b==name.b)
theorem FD{o:af}(h:Small o.V)(name:ar):dJ o name=some (oE o name):=by
 unfold dJ
 rw[get_eq h,aK];rfl
theorem IJ{o:af}(h:Small o.V)(name:ar):dY o name=some (oE o name):=by
 obtain⟨t,h1,h2⟩:=Yr o name h
 rw[FD h]at h1
 injection h1 with h1
 rw[h2,h1]
def mK(o:af):aa:=(cK o.V qL).1
def bZ(o:af):Int:=(cK o.V wj).1.N
def cW(o:af):List Int:=CW (mK o).L
def s6(o:af):Bool:=((!oE o qa||((mK o).Kind !=6))||(((mK o).L.length:Int)==0))||((cK o.V wj).1.Kind !=2)
def isNode(o:af):Bool:=!s6 o&&(jX (mK o).L&&(decide (bZ o>=((mK o).L.length:Int))&&decide (bZ o<=2048)))
def nodeAt(n:Int)(o:af):aG:=⟨n,o.V,cW o,bZ o⟩
theorem CL(o:af):(cW o).length=(mK o).L.length:=by unfold cW CW;simp
theorem pb{o:af}(h:isNode o=true):0<(cW o).length/\((cW o).length:Int)<=bZ o/\bZ o<=2048:=by
 unfold isNode s6 at h
 simp at h
 obtain⟨⟨⟨⟨_,_⟩,h1⟩,_⟩,_,h2,h3⟩:=h
 rw[CL]
 have:(mK o).L.length≠0:=fun e=>h1 (List.eq_nil_of_length_eq_zero e)
 exact⟨by omega,h2,h3⟩
theorem LC(n:Int)(o:af)(hw:W 300 o.V):∃x,ff n o=some (x,isNode o)/\(isNode o=true->x=nodeAt n o):=by
 have hs:=Small.ZP hw (by decide)
 have hL:((cK o.V qL).1.L.length:Int)<=299:=VG (n:=299) hw (get_eq hs qL)
 obtain⟨x,hx,agG⟩:=UU (cK o.V qL).1.L n 0 o.V (by omega)
 unfold ff
 rw[show bc o.V (ar.mk [75,105,100,115])=_ from get_eq hs qL,show bc o.V (ar.mk [67,111,117,110,116])=_ from get_eq hs wj,show dJ o (ar.mk [80,97,103,101,115])=_ from FD hs qa]
 simp only[aK]
 by_cases hb:s6 o=true
 ·have hn:isNode o=false:=by unfold isNode;rw[hb];rfl
  refine⟨⟨n,o.V,[],0⟩,?_,fun h=>by rw[hn]at h;cases h⟩
  rw[hn];exact aL hb rfl
 ·have hb':s6 o=false:=by simpa using hb
  rcases agG with⟨ha,rfl⟩|⟨ha,z,rfl⟩
  ·refine⟨nodeAt n o,az hb ?_,fun _=>rfl⟩
   rw[hx]
   have hn:isNode o=(decide (bZ o>=((mK o).L.length:Int))&&decide (bZ o<=2048)):=by
    unfold isNode
    rw[hb',show jX (mK o).L=true from ha];rfl
   rw[hn,<-CL]
   rfl
  ·have hn:isNode o=false:=by
    unfold isNode
    rw[show jX (mK o).L=false from ha];simp
   refine⟨z,az hb ?_,fun h=>by rw[hn]at h;cases h⟩
   rw[hx,hn]
   rfl
def YE:aG:=aG.mk 0 (aa.mk 0 0 (ar.mk []) ([]:List aa)) ([]:List Int) 0
theorem VP(f:DV)(n:Int)(h:jg f.aS):jN f.v n=some (if isNode (ay f.aS n)then(nodeAt n (ay f.aS n),0,0)else(YE,0,24)):=by
 obtain⟨x,h1,h2⟩:=LC n (ay f.aS n) (h.Eu n)
 unfold jN
 rw[L4 f n h,aK]
 refine az (by simp) ?_
 rw[h1,aK]
 cases hi:isNode (ay f.aS n)with
 |true=>rw[h2 hi];rfl
 |false=>rfl
def pick(d:aD):List Int->Int->Option (Int×Int)
 |[],_=>none
 |m::l,p=>if isNode (ay d m)=true then(if p<bZ (ay d m)then some (m,p)else pick d l (p -bZ (ay d m)))else none
abbrev mP:aO:=aO.mk 0 ([]:List Int) (aa.mk 0 0 (ar.mk []) ([]:List aa))
def hG(d:aD):Nat->Int->Int->List Int->Gv->aO×Int
 |0,_,_,_,_=>(mP,24)
 |k+1,n,p,path,g=>
  if bZ (ay d n)=((cW (ay d n)).length:Int)then
   if oE (ay d (ix (cW (ay d n)) p)) D6=true then
    (⟨ix (cW (ay d n)) p,path++[n],((g.ka (ay d n).V).leave (ay d (ix (cW (ay d n)) p)).V).v⟩,0)
   else if isNode (ay d (ix (cW (ay d n)) p))=true/\bZ (ay d (ix (cW (ay d n)) p))=1 then
    hG d k (ix (cW (ay d n)) p) 0 (path++[n]) (g.ka (ay d n).V)
   else(mP,24)
  else match pick d (cW (ay d n)) p with
   |none=>(mP,24)
   |some (m,q)=>hG d k m q (path++[n]) (g.ka (ay d n).V)
theorem C5{d:aD}:∀{l:List Int}{p m q:Int},0<=p->pick d l p=some (m,q)->m∈l/\isNode (ay d m)=true/\0<=q/\q<bZ (ay d m)
 |[],_,_,_,_,h=>by cases h
 |a::l,p,m,q,h0,h=>by
  unfold pick at h
  split at h
  ·rename_i hn
   split at h
   ·rename_i hp
    injection h with h;injection h with h1 h2
    subst h1;subst h2
    exact⟨List.mem_cons_self,hn,h0,hp⟩
   ·obtain⟨h1,h2⟩:=C5 (by omega) h
    exact⟨List.mem_cons_of_mem _ h1,h2⟩
  ·cases h
end Go.AB
end
