/- A part of the proof: Ab9, Ab10, Ab11. -/
import Derived.Test.YtkeagffgdajggaaGreatNu3
import Derived.Laws.BytesArg
import Derived.Laws.StructEq
import Derived.Laws.Rows
import Derived.Laws.CopyRow
import Derived.Laws.Append
import Derived.Laws.AppendOwn
set_option linter.unusedSimpArgs false
set_option linter.unusedVariables false
section
namespace Go.AB
open Go
section
variable{P:Program}{G:Gh}{n:Nat}{D:List Deferred}{E:St}{a:Act}{w:World}
theorem acQ{k:Int}{m sz len:Nat}(h0:0<=k)(h1:k<m)(hl:len=m*sz):k.toNat*sz+sz<=len:=by
 have:k.toNat+1<=m:=by omega
 calc k.toNat*sz+sz=(k.toNat+1)*sz:=by rw[Nat.add_mul,Nat.one_mul]
  _<=m*sz:=Nat.mul_le_mul_right _ this
  _=len:=hl.symm
theorem MT(h:Inv G n D E a w){op:Op}{ty:TypeId}{z:List AV}{x i:IX}(hc:ao P op ty (.indexAddr z x i)=true){av:AV}(hv:gx (pv (.indexAddr z x i) (xg true E) E) av):
 ∃v,runs P a op ty w v/\NR G w E a av v:=by
 cases op<;>first|(simp[ao]at hc;done)|skip
 rename_i t y j
 simp only[ao,Bool.and_eq_true]at hc
 obtain⟨⟨hy,hj⟩,hc⟩:=hc
 split at hc<;>try(cases hc;done)
 rename_i e ht
 have ht:=dw ht
 have hb:=BR.aN h hy
 have hbi:=BR.aN h hj
 have hv':gx (ki z (xg true E x) (xg true E i)) av:=hv
 generalize xg true E x=xv at hb hv'
 generalize xg true E i=iv at hbi hv'
 have b7:∀b o l c k q,a.eval y=.slice (some ⟨b,o,none⟩) l c->a.eval j=.int k q->0<=q->q<l->runs P a (.indexAddr t y j) ty w (.pointer (some ⟨b,o+q.toNat*z.length,none⟩)):=by
  intro b o l c k q e1 e2 h0 h1 _ _ _ _
  simp[execOp,e1,e2,Instr.indexAt,asIntOf,run_underlying ht,h0,h1,run_sizeOf hc,add_eq]
 unfold ki at hv'
 split at hv'
 ·rename_i ow s m cs k q
  cases hs:s==z.length with
  |false=>rw[hs]at hv';exact hv'.no.elim
  |true=>
   rw[hs]at hv'
   have hs:=beq_iff_eq.1 hs
   obtain⟨rfl,h0,h1⟩:=hv'.prt
   have e2:a.eval j=.int k q:=VR.ct hbi
   rcases VR.hZ hb with⟨_,rfl,_⟩|⟨b,o,cap,e1,hl,hR,gZ,hat⟩
   ·simp at h1;omega
   ·rw[hs]at hl
    have dL:=acQ h0 h1 hl
    have hlen:(views (AB.sub cs (q.toNat*z.length) z.length)).length=z.length:=by simp only[AB.views,List.length_map,j7 dL]
    have ac2:pad z (views (AB.sub cs (q.toNat*z.length) z.length))=views (AB.sub cs (q.toNat*z.length) z.length):=by
     unfold pad
     rw[hlen,beq_self_eq_true];rfl
    have akG:=(hat.sub (q.toNat*z.length) z.length).views
    obtain⟨u,u1,u2,u3⟩:=akG
    rw[ac2]
    refine⟨_,b7 b o m cap k q e1 e2 h0 h1,NR.mk rfl (.sp _ b (o+q.toNat*z.length) u u3 ?_ u1 u2) rfl⟩
    rw[hlen]
    omega
 ·rename_i b o m c k q
  obtain⟨rfl,h0,h1⟩:=hv'.prt
  rcases VR.cd hb with e0|⟨h2,_,_⟩
  ·exact⟨_,b7 b o m c k q e0 (VR.ct hbi) h0 h1,NR.mk rfl (.ref _ _) rfl⟩
  ·omega
 ·exact hv'.no.elim
theorem jC{lo:Option Operand}{li:Option IX}(h:Inv G n D E a w)(hc:IS lo li=true){d l:Int}(hl:IB (xg true E) li d=some l):
 (lo=none/\l=d)\/(∃k o,lo=some o/\a.eval o=.int k l):=by
 unfold IS at hc
 split at hc
 ·injection hl with hl;exact .inl ⟨rfl,hl.symm⟩
 ·rename_i o x
  have hb:=BR.aN h hc
  unfold IB at hl
  simp only at hl
  split at hl
  ·rename_i k q hq
   injection hl with hl;subst hl
   rw[hq]at hb
   exact .inr ⟨k,o,rfl,VR.ct hb⟩
  ·cases hl
 ·cases hc
theorem iC(I3:Bool)(len cap:Nat){lo hi:Option Value}{l hh:Int}(hlo:(lo=none/\l=0)\/∃k,lo=some (.int k l))(hhi:(hi=none/\hh=len)\/∃k,hi=some (.int k hh))
 (h0:0<=l)(h1:l<=hh)(h2:hh<=cap):(Instr.sliceBounds I3 len cap lo hi none).run P w=.ok (l.toNat,hh.toNat,cap) w:=by
 have hb:∀(k:IntKind)(q:Int)(y:Nat)(c:BoundsCode),0<=q->q<=y->(Instr.sliceBound (.int k q) y c).run P w=.ok q.toNat w:=by
  intro k q y c hq hy
  simp[Instr.sliceBound,asIntOf,hq,hy]
 rcases hhi with⟨rfl,rfl⟩|⟨k,rfl⟩
 ·rcases hlo with⟨rfl,rfl⟩|⟨k',rfl⟩
  ·simp[Instr.sliceBounds]
  ·simp[Instr.sliceBounds,hb k' l len _ h0 h1]
 ·have:=hb k hh cap (if I3 then .sliceAcap else .sliceAlen) (by omega) h2
  rcases hlo with⟨rfl,rfl⟩|⟨k',rfl⟩
  ·simp[Instr.sliceBounds,this]
  ·have h3:=hb k' l hh.toNat .sliceB h0 (by omega)
   simp[Instr.sliceBounds,this,h3]
theorem CH(I3:Bool)(len cap:Nat){lo:Option Value}{l hh m:Int}{kh km:IntKind}(hlo:(lo=none/\l=0)\/∃k,lo=some (.int k l))
 (h0:0<=l)(h1:l<=hh)(h2:hh<=m)(h3:m<=cap):(Instr.sliceBounds I3 len cap lo (some (.int kh hh)) (some (.int km m))).run P w=.ok (l.toNat,hh.toNat,m.toNat) w:=by
 have hb:∀(k:IntKind)(q:Int)(y:Nat)(c:BoundsCode),0<=q->q<=y->(Instr.sliceBound (.int k q) y c).run P w=.ok q.toNat w:=by
  intro k q y c hq hy
  simp[Instr.sliceBound,asIntOf,hq,hy]
 have e1:=hb km m cap (if I3 then .slice3Acap else .slice3Alen) (by omega) h3
 have e2:=hb kh hh m.toNat .slice3B (by omega) (by omega)
 rcases hlo with⟨rfl,rfl⟩|⟨k',rfl⟩
 ·simp[Instr.sliceBounds,e1,e2]
 ·have e3:=hb k' l hh.toNat .slice3C h0 (by omega)
  simp[Instr.sliceBounds,e1,e2,e3]
theorem mC{lo:Option Operand}{l d:Int}(h:(lo=none/\l=d)\/(∃k o,lo=some o/\a.eval o=.int k l)):(lo.map a.eval=none/\l=d)\/∃k,lo.map a.eval=some (.int k l):=by
 rcases h with⟨rfl,h⟩|⟨k,o,rfl,h⟩
 ·exact .inl ⟨rfl,h⟩
 ·exact .inr ⟨k,by simp[h]⟩
theorem XT(h:Inv G n D E a w){op:Op}{ty:TypeId}{sz:Nat}{x:IX}{lo hi mx:Option IX}(hc:ao P op ty (.slice sz x lo hi mx)=true){av:AV}(hv:gx (pv (.slice sz x lo hi mx) (xg true E) E) av):
 ∃v,runs P a op ty w v/\NR G w E a av v:=by
 cases op<;>first|(simp[ao]at hc;done)|skip
 rename_i t y l' h' m'
 simp only[ao,Bool.and_eq_true]at hc
 obtain⟨⟨⟨⟨hy,hlo⟩,hhi⟩,hmx⟩,hc⟩:=hc
 split at hc<;>try(cases hc;done)
 rename_i e ht
 have ht:=dw ht
 cases mx with
 |some m=>
  have hb:=BR.aN h hy
  have hv':gx (qw sz (xg true E) lo hi m (xg true E x)) av:=hv
  generalize xg true E x=xv at hb hv'
  unfold qw at hv'
  split at hv'
  ·rename_i b o len cap
   unfold CK at hv'
   split at hv'
   ·rename_i l hh mm hl hhh hmm
    obtain⟨rfl,h0,h1,h2,h3⟩:=hv'.prt
    have bl:=mC (jC h hlo hl)
    cases hi with
    |none=>cases hhh
    |some hi'=>
    have bh:=jC h hhi (d:=0) hhh
    have bm:=jC h hmx (d:=0) hmm
    rcases bh with⟨hn,_⟩|⟨kh,oh,eh1,eh2⟩
    ·subst hn;unfold IS at hhi;cases hhi
    rcases bm with⟨hn,_⟩|⟨km,om,em1,em2⟩
    ·subst hn;unfold IS at hmx;cases hmx
    subst eh1;subst em1
    have b7:=CH (P:=P) (w:=w) (kh:=kh) (km:=km) true len cap bl h0 h1 h2 h3
    have e3:hh.toNat -l.toNat=(hh -l).toNat:=by omega
    rcases VR.cd hb with e1|⟨rfl,rfl,e1⟩
    ·by_cases hcl:mm.toNat=l.toNat
     ·have e5:iY o mm.toNat l.toNat sz=o:=by unfold iY;rw[hcl,beq_self_eq_true];rfl
      rw[e5]
      refine⟨.slice (some ⟨b,o,none⟩) (hh -l).toNat (mm.toNat -l.toNat),fun _ _ _ _=>?_,NR.mk rfl (.arr _ _ _ _) rfl⟩
      simp[execOp,e1,Instr.sliceAt,run_underlying ht,Instr.slice,eh2,em2,b7,run_sizeOf hc,hcl,e3]
     ·have e5:iY o mm.toNat l.toNat sz=o+l.toNat*sz:=by
       unfold iY
       rw[show(mm.toNat==l.toNat)=false by simpa using hcl];rfl
      rw[e5]
      refine⟨.slice (some ⟨b,o+l.toNat*sz,none⟩) (hh -l).toNat (mm.toNat -l.toNat),fun _ _ _ _=>?_,NR.mk rfl (.arr _ _ _ _) rfl⟩
      simp[execOp,e1,Instr.sliceAt,run_underlying ht,Instr.slice,eh2,em2,b7,run_sizeOf hc,hcl,e3,add_eq]
    ·have h6:mm=0:=by omega
     have h4:hh=0:=by omega
     have h5:l=0:=by omega
     subst h6;subst h4;subst h5
     refine⟨.slice none 0 0,fun _ _ _ _=>?_,NR.mk rfl (by exact .LB _ _) rfl⟩
     simp[execOp,e1,Instr.sliceAt,run_underlying ht,Instr.slice,eh2,em2,b7,run_sizeOf hc]
   ·exact hv'.no.elim
  ·exact hv'.no.elim
 |none=>
  have hm':m'=none:=by
   cases m' with
   |none=>rfl
   |some _=>simp[IS]at hmx
  subst hm'
  have hb:=BR.aN h hy
  have hv':gx (wx sz (xg true E) lo hi (xg true E x)) av:=hv
  generalize xg true E x=xv at hb hv'
  unfold wx at hv'
  split at hv'
  ·rename_i ow s m cs
   cases hs:s==sz with
   |false=>rw[hs]at hv';exact hv'.no.elim
   |true=>
    rw[hs]at hv'
    obtain rfl:=beq_iff_eq.1 hs
    have lG:gx (E5 s m cs (IB (xg true E) lo 0) (IB (xg true E) hi m)) av:=hv'
    unfold E5 at lG
    split at lG
    ·rename_i l hh hl hhh
     cases h1s:Nat.ble 1 s with
     |false=>rw[h1s]at lG;exact lG.no.elim
     |true=>
     rw[h1s]at lG
     have hs1:1<=s:=Nat.le_of_ble_eq_true h1s
     obtain⟨rfl,h0,h1,h2⟩:=lG.prt
     have bl:=mC (jC h hlo hl)
     have bh:=mC (jC h hhi hhh)
     rcases VR.hZ hb with⟨e1,rfl,rfl⟩|⟨b,o,cap,e1,hlen,hR,gZ,hat⟩
     ·have hl0:l=0:=by omega
      have hh0:hh=0:=by omega
      subst hl0;subst hh0
      have eD:AB.sub ([]:List AV) ((0:Int).toNat*s) ((0 -0:Int).toNat*s)=[]:=by simp[AB.sub]
      rcases e1 with e1|⟨_,ad,cap,e1⟩
      ·refine⟨.slice none 0 0,fun _ _ _ _=>?_,NR.mk rfl ?_ rfl⟩
       ·have:=iC (P:=P) (w:=w) true 0 0 bl bh (by omega) (by omega) (by omega)
        simp[execOp,e1,Instr.sliceAt,run_underlying ht,Instr.slice,this,run_sizeOf hc]
       ·rw[eD]
        show VR _ _ (.sl false s (0/s) []) _
        rw[Nat.zero_div];exact .slnil _ _
      ·refine⟨.slice (some (if cap=0 then ad else ad.add 0)) 0 cap,fun _ _ _ _=>?_,NR.mk rfl ?_ rfl⟩
       ·have:=iC (P:=P) (w:=w) true 0 cap bl bh (by omega) (by omega) (by omega)
        by_cases hc0:cap=0
        ·subst hc0
         simp[execOp,e1,Instr.sliceAt,run_underlying ht,Instr.slice,this,run_sizeOf hc]
        ·simp[execOp,e1,Instr.sliceAt,run_underlying ht,Instr.slice,this,run_sizeOf hc,hc0]
       ·rw[eD]
        show VR _ _ (.sl false s (0/s) []) _
        rw[Nat.zero_div];exact .sle _ _ _
     ·have b7:=iC (P:=P) (w:=w) true m cap bl bh h0 h1 (by omega)
      have dL:l.toNat*s+(hh -l).toNat*s<=cs.length:=by
       rw[hlen,<-Nat.add_mul]
       exact Nat.mul_le_mul_right _ (by omega)
      have hdiv:(AB.sub cs (l.toNat*s) ((hh -l).toNat*s)).length/s=(hh -l).toNat:=by rw[j7 dL];exact Nat.mul_div_cancel _ hs1
      rw[hdiv]
      by_cases hcl:cap=l.toNat
      ·subst hcl
       have hz:(hh -l).toNat=0:=by omega
       refine⟨.slice (some ⟨b,o,none⟩) (hh -l).toNat (l.toNat -l.toNat),fun _ _ _ _=>?_,NR.mk rfl ?_ rfl⟩
       ·have e3:hh.toNat -l.toNat=(hh -l).toNat:=by omega
        simp[execOp,e1,Instr.sliceAt,run_underlying ht,Instr.slice,b7,run_sizeOf hc,e3]
       ·rw[hz]
        have:AB.sub cs (l.toNat*s) (0*s)=[]:=by simp[AB.sub]
        rw[this]
        exact .sl false s 0 [] b o _ (fun _=>undef) Fl.nil (by simp) (by simp;omega) (Nat.zero_le _) (fun j c hj=>by simp at hj) (fun j c hj=>by simp at hj)
      ·refine⟨.slice (some ⟨b,o+l.toNat*s,none⟩) (hh -l).toNat (cap -l.toNat),fun _ _ _ _=>?_,NR.mk rfl ?_ rfl⟩
       ·have e3:hh.toNat -l.toNat=(hh -l).toNat:=by omega
        simp[execOp,e1,Instr.sliceAt,run_underlying ht,Instr.slice,b7,run_sizeOf hc,hcl,e3,add_eq]
       ·obtain⟨u,u1,u2,u3⟩:=hat.sub (l.toNat*s) ((hh -l).toNat*s)
        exact .sl false s _ _ b _ _ u u3 (j7 dL) (by rw[j7 dL];omega) (by omega) u1 u2
    ·exact lG.no.elim
  ·rename_i b o m cap
   have lG:gx (Bm sz b o cap (IB (xg true E) lo 0) (IB (xg true E) hi m)) av:=hv'
   unfold Bm at lG
   split at lG
   ·rename_i l hh hl hhh
    obtain⟨rfl,h0,h1,h2⟩:=lG.prt
    have bl:=mC (jC h hlo hl)
    have bh:=mC (jC h hhi hhh)
    have b7:=iC (P:=P) (w:=w) true m cap bl bh h0 h1 h2
    have e3:hh.toNat -l.toNat=(hh -l).toNat:=by omega
    rcases VR.cd hb with e1|⟨rfl,rfl,e1⟩
    ·by_cases hcl:cap=l.toNat
     ·have e5:iY o cap l.toNat sz=o:=by unfold iY;rw[hcl,beq_self_eq_true];rfl
      rw[e5]
      refine⟨.slice (some ⟨b,o,none⟩) (hh -l).toNat (cap -l.toNat),fun _ _ _ _=>?_,NR.mk rfl (.arr _ _ _ _) rfl⟩
      simp[execOp,e1,Instr.sliceAt,run_underlying ht,Instr.slice,b7,run_sizeOf hc,<-hcl,e3]
      simp[hcl,<-e3]
     ·have e5:iY o cap l.toNat sz=o+l.toNat*sz:=by
       unfold iY
       rw[show(cap==l.toNat)=false by simpa using hcl];rfl
      rw[e5]
      refine⟨.slice (some ⟨b,o+l.toNat*sz,none⟩) (hh -l).toNat (cap -l.toNat),fun _ _ _ _=>?_,NR.mk rfl (.arr _ _ _ _) rfl⟩
      simp[execOp,e1,Instr.sliceAt,run_underlying ht,Instr.slice,b7,run_sizeOf hc,hcl,e3,add_eq]
    ·have h3:l=0:=by omega
     have h4:hh=0:=by omega
     subst h3;subst h4
     refine⟨.slice none 0 0,fun _ _ _ _=>?_,NR.mk rfl (by exact .LB _ _) rfl⟩
     simp[execOp,e1,Instr.sliceAt,run_underlying ht,Instr.slice,b7,run_sizeOf hc]
   ·exact lG.no.elim
  ·exact hv'.no.elim
theorem UD(h:Inv G n D E a w){op:Op}{ty:TypeId}{x:IX}{lo hi:Option IX}(hc:ao P op ty (.qW x lo hi)=true){av:AV}(hv:gx (pv (.qW x lo hi) (xg true E) E) av):
 ∃v,runs P a op ty w v/\NR G w E a av v:=by
 cases op<;>first|(simp[ao]at hc;done)|skip
 rename_i t y l' h' m'
 cases m' with
 |some _=>simp[ao]at hc
 |none=>
  simp only[ao,Bool.and_eq_true]at hc
  obtain⟨⟨⟨hy,hlo⟩,hhi⟩,ht⟩:=hc
  have ht:=E6 ht
  have hb:=BR.aN h hy
  have hv':gx (mN (xg true E) lo hi (xg true E x)) av:=hv
  generalize xg true E x=xv at hb hv'
  unfold mN at hv'
  split at hv'
  ·rename_i s
   have lG:gx (Bo s (IB (xg true E) lo 0) (IB (xg true E) hi s.length)) av:=hv'
   unfold Bo at lG
   split at lG
   ·rename_i l hh hl hhh
    obtain⟨rfl,h0,h1,h2⟩:=lG.prt
    have bl:=mC (jC h hlo hl)
    have bh:=mC (jC h hhi hhh)
    have e1:=VR.eW hb
    have b7:=iC (P:=P) (w:=w) false s.length s.length bl bh h0 h1 h2
    have hsz:(ByteArray.mk s.toArray).size=s.length:=by simp[ByteArray.size]
    refine⟨.string ⟨((s.drop l.toNat).take (hh -l).toNat).toArray⟩,fun _ _ _ _=>?_,NR.mk rfl (.str _) rfl⟩
    have hex:(ByteArray.mk s.toArray).extract l.toNat hh.toNat=⟨((s.drop l.toNat).take (hh -l).toNat).toArray⟩:=by
     apply ByteArray.ext
     rw[ByteArray.data_extract]
     apply Array.ext'
     simp only[Array.toList_extract,List.extract_eq_take_drop]
     congr 1
     omega
    simp[execOp,e1,Instr.sliceAt,run_underlying ht,Instr.slice,hsz,b7,hex]
   ·exact lG.no.elim
  ·exact hv'.no.elim
theorem ss{b:Builtin}{c:Call}{ys:List Operand}{ts:List TypeId}(h:Vh b c=some (ys,ts)):c={callee:=.builtin b,args:=ys.toArray,argTypes:=ts.toArray}:=by
 unfold Vh at h
 split at h
 ·rename_i b' hb
  split at h
  ·rename_i hbb
   injection h with h;injection h with h1 h2
   subst hbb;subst h1;subst h2
   cases c;simp at hb;simp[hb]
  ·cases h
 ·cases h
theorem adZ(h:Inv G n D E a w){op:Op}{ty:TypeId}{cls:Nat}{x:IX}(hc:ao P op ty (.len cls x)=true){av:AV}(hv:gx (pv (.len cls x) (xg true E) E) av):
 ∃v,runs P a op ty w v/\NR G w E a av v:=by
 cases op<;>first|(simp[ao]at hc;done)|skip
 rename_i c
 simp only[ao]at hc
 split at hc<;>try(cases hc;done)
 rename_i y ys t ts hb
 have hce:=ss hb
 subst hce
 rw[Bool.and_eq_true]at hc
 obtain⟨hy,hlt⟩:=hc
 have hb:=BR.aN h hy
 have hv':gx (D7 E.s cls (xg true E x)) av:=hv
 generalize xg true E x=xv at hb hv'
 have fin:∀(m:Nat),av=.int .i64 m->(∀w',w'=w->(Builtin.len_ (t::ts).toArray ty ((y::ys).toArray.map a.eval)).run P w'=.ok (.int .i64 m) w')->∃v,runs P a (.call {callee:=.builtin .len,args:=(y::ys).toArray,argTypes:=(t::ts).toArray}) ty w v/\NR G w E a av v:=by
  intro m hm hr
  subst hm
  exact⟨.int .i64 m,fun _ _ _ _=>by simp[execOp,resolve,invoke,builtin]at hr⊢;simp[hr],NR.mk rfl (.int _ _) rfl⟩
 unfold ahH at hlt
 split at hlt<;>try(cases hlt;done)
 all_goals
  rename_i ht
  obtain rfl:=beq_iff_eq.1 hlt
  unfold D7 at hv'
  split at hv'<;>rename_i hcl<;>try(cases hcl;done)
 ·rename_i ow s m cs
  refine fin m hv'.dv fun w' _=>?_
  rcases VR.hZ hb with⟨e0,rfl,_⟩|⟨b,o,cap,e1,_⟩
  ·obtain⟨_,_,e1⟩:=e0.ex
   simp[Builtin.len_,run_underlying ht,goInt,e1]
  ·simp[Builtin.len_,run_underlying ht,goInt,e1]
 ·rename_i b o m c
  refine fin m hv'.dv fun w' _=>?_
  rcases VR.cd hb with e1|⟨rfl,_,e1⟩<;>simp[Builtin.len_,run_underlying ht,goInt,e1]
 ·exact hv'.no.elim
 ·rename_i s
  refine fin s.length hv'.dv fun w' _=>?_
  have e1:=VR.eW hb
  have hsz:(ByteArray.mk s.toArray).size=s.length:=by simp[ByteArray.size]
  simp only[List.map_toArray,List.map_cons,e1]
  simp[Builtin.len_,run_underlying ht,goInt,hsz]
 ·exact hv'.no.elim
 ·refine fin 0 hv'.dv fun w' _=>?_
  simp[Builtin.len_,run_underlying ht,goInt,VR.OT hb]
 ·rename_i b
  unfold Rt at hv'
  split at hv'
  ·rename_i es hs
   refine fin es.length hv'.dv fun w' hw'=>?_
   subst hw'
   obtain⟨_,_,iu,clock,hh,hsz,_⟩:=h.store b _ hs
   have hg:(getObj b).run P w'=.ok (.map iu clock) w':=by simp[getObj,Sem.run,hh]
   simp[Builtin.len_,run_underlying ht,goInt,VR.Re hb,hg,hsz]
  ·exact hv'.no.elim
 ·exact hv'.no.elim
theorem ZL(mx:Bool)(k:IntKind)(h:Inv G n D E a w):∀(xs:List IX)(ys:List Operand),iL ys xs=true->∀(m r:Int),PF mx m (xs.map (xg true E))=some r->
 ((ys.map a.eval).foldlM (if mx then Builtin.max2 else Builtin.min2) (.int k m)).run P w=.ok (.int k r) w:=by
 intro xs
 induction xs with
 |nil=>
  intro ys hc m r hr
  cases ys with
  |nil=>simp[PF]at hr;subst hr;rfl
  |cons _ _=>simp[iL]at hc
 |cons x xs ih=>
  intro ys hc m r hr
  cases ys with
  |nil=>simp[iL]at hc
  |cons y ys=>
   simp only[iL,Bool.and_eq_true]at hc
   have hb:=BR.aN h hc.1
   simp only[List.map_cons]at hr⊢
   generalize xg true E x=xv at hb hr
   cases xv<;>simp only[PF]at hr<;>try(cases hr;done)
   rename_i k' q
   have e:=VR.ct hb
   have:=ih ys hc.2 _ r hr
   rw[List.foldlM_cons]
   simp only[Sem.run_bind,e]
   cases mx with
   |true=>
    have:(Builtin.max2 (.int k m) (.int k' q)).run P w=.ok (.int k (max m q)) w:=by
     simp only[Builtin.max2,Sem.run_pure]
     congr 2
     omega
    simp_all
   |false=>
    have:(Builtin.min2 (.int k m) (.int k' q)).run P w=.ok (.int k (min m q)) w:=by
     simp only[Builtin.min2,Sem.run_pure]
     congr 2
     omega
    simp_all
theorem RU(h:Inv G n D E a w){op:Op}{ty:TypeId}{k:Nat}{x:IX}(hc:ao P op ty (.extract x k)=true){av:AV}(hv:gx (pv (.extract x k) (xg true E) E) av):
 ∃v,runs P a op ty w v/\NR G w E a av v:=by
 cases op<;>first|(simp[ao]at hc;done)|skip
 rename_i y j
 simp only[ao,Bool.and_eq_true,beq_iff_eq]at hc
 obtain⟨hy,rfl⟩:=hc
 have hb:=BR.aN h hy
 have hv':gx (ru k (xg true E x)) av:=hv
 generalize xg true E x=xv at hb hv'
 unfold ru at hv'
 split at hv'
 ·rename_i vs
  obtain⟨us,e1,hl,hr⟩:=VR.SV hb
  cases hk:vs[k]? with
  |none=>rw[hk]at hv';exact hv'.no.elim
  |some c=>
   rw[hk]at hv'
   obtain⟨rfl,hi⟩:=VB hv'
   have hlt:k<us.size:=by rw[hl];exact(List.getElem?_eq_some_iff.1 hk).1
   have hu:=Array.getElem?_eq_getElem hlt
   exact⟨us[k],fun _ _ _ _=>by simp[execOp,e1,Instr.extract,hu],NR.mk hi (hr k c _ hk hu).view (mT _)⟩
 ·exact hv'.no.elim
end
end Go.AB
end
section
namespace Go.AB
open Go
theorem N6{a:AV}{c:UInt8}(h:byteOf a=some c):a=.int .u8 c.toNat:=by
 unfold byteOf at h
 split at h
 ·rename_i n
  split at h
  ·rename_i hn
   injection h with h
   subst h
   rw[UInt8.toNat_ofNat']
   congr 1
   omega
  ·cases h
 ·cases h
theorem Ab:∀{cs:List AV}{l:List UInt8},bytesOf cs=some l->cs=l.map fun c=>.int .u8 c.toNat
 |[],l,h=>by
  unfold bytesOf at h
  injection h with h
  subst h;rfl
 |a::r,l,h=>by
  unfold bytesOf at h
  cases ha:byteOf a with
  |none=>rw[ha]at h;cases h
  |some c=>
   cases hr:bytesOf r with
   |none=>rw[ha,hr]at h;cases h
   |some m=>
    rw[ha,hr]at h
    injection h with h
    subst h
    rw[N6 ha,Ab hr];rfl
section
variable{P:Program}{G:Gh}{n:Nat}{D:List Deferred}{E:St}{a:Act}{w:World}
theorem XS(h:Inv G n D E a w){op:Op}{ty:TypeId}{z:List AV}{m:Bool}{x:IX}(hc:ao P op ty (.bf z m x)=true){av:AV}(hv:gx (pv (.bf z m x) (xg true E) E) av):
 ∃v,runs P a op ty w v/\NR G w E a av v:=by
 have hc':ao P op ty (.load z.length m x)=true:=by cases op<;>first|exact hc|(simp[ao]at hc;done)
 refine MU h hc' ?_
 have hv':gx (KW z m E.s (xg true E x)) av:=hv
 show gx (jF m (rd E (xg true E x) z.length)) av
 generalize xg true E x=xv at hv'
 cases xv<;>first|exact hv'.no.elim|skip
 rename_i b off
 have hv2:gx (Pu z m off (E.s b)) av:=hv'
 show gx (jF m (wh z.length off (E.s b))) av
 cases hs:E.s b with
 |none=>rw[hs]at hv2;exact hv2.no.elim
 |some so=>
  cases so with
  |map es=>rw[hs]at hv2;exact hv2.no.elim
  |cells cs=>
   rw[hs]at hv2
   have hv3:gx (ckP (off+z.length<=cs.length) (rn m (pad z (views (sub cs off z.length))))) av:=hv2
   unfold ckP at hv3
   cases hi:dt (rn m (pad z (views (sub cs off z.length))))with
   |false=>rw[hi]at hv3;exact hv3.no.elim
   |true=>
    rw[hi]at hv3
    obtain⟨rfl,hle⟩:=hv3.prt
    have hlen:(views (AB.sub cs off z.length)).length=z.length:=by simp only[AB.views,List.length_map,AB.sub,List.length_take,List.length_drop];omega
    have ac2:pad z (views (AB.sub cs off z.length))=views (AB.sub cs off z.length):=by unfold pad;rw[hlen,beq_self_eq_true];rfl
    rw[ac2]at hi⊢
    show gx (jF m (gy z.length off cs)) _
    unfold gy
    rw[decide_eq_true hle]
    show gx (ckV (rn m (views (AB.sub cs off z.length)))) _
    unfold ckV
    rw[hi]
    exact .inl rfl
theorem XQ(h:Inv G n D E a w){op:Op}{ty:TypeId}{k:IntKind}{x:IX}(hc:ao P op ty (.mh k x)=true){av:AV}(hv:gx (pv (.mh k x) (xg true E) E) av):
 ∃v,runs P a op ty w v/\NR G w E a av v:=by
 have hc':ao P op ty (.load 1 false x)=true:=by
  cases op<;>first|(simp[ao]at hc;done)|skip
  simp only[ao,Bool.and_eq_true]at hc⊢
  exact⟨⟨⟨hc.1.1,hc.1.2⟩,rfl⟩,hc.2⟩
 refine MU h hc' ?_
 have hv':gx (Ck k E.s (xg true E x)) av:=hv
 show gx (jF false (rd E (xg true E x) 1)) av
 generalize xg true E x=xv at hv'
 cases xv<;>first|exact hv'.no.elim|skip
 rename_i b off
 obtain⟨rfl,hcc⟩:=gx.prt (show gx (.prt (GW k off (E.s b)) (.int k (GX off (E.s b)))) av from hv')
 show gx (jF false (wh 1 off (E.s b))) _
 cases hs:E.s b with
 |none=>rw[hs]at hcc;exact hcc.elim
 |some so=>
  cases so with
  |map es=>rw[hs]at hcc;exact hcc.elim
  |cells cs=>
   rw[hs]at hcc
   obtain⟨m,hm⟩:=hcc
   have hlt:=(List.getElem?_eq_some_iff.1 hm).1
   show gx (jF false (gy 1 off cs)) (.int k (intOf cs[off]?))
   rw[hm]
   unfold gy
   rw[decide_eq_true (by omega)]
   have e:AB.sub cs off 1=[.int k m]:=by
    unfold AB.sub
    rw[List.drop_eq_getElem_cons hlt]
    have:=(List.getElem?_eq_some_iff.1 hm).2
    rw[this];rfl
   rw[e]
   exact .inl rfl
theorem kW{P:Program}(w:World)(src e:TypeId)(hs:P.underlying src=some (.slice e))(he:P.underlying e=some (.int .u8))(ad:Addr)(cap:Nat):
 ∀dst,P.underlying dst=some .string->(convert src dst (.slice (some ad) 0 cap)).run P w=.ok (.string ByteArray.empty) w:=by
 intro dst hd
 have hl:(loadCells ad 0).run P w=.ok (([]:List Int).map (Value.int .u8)).toArray w:=by
  have:=run_loadCells_list (P:=P) w ad [] (fun j v hj=>by simp at hj)
  simpa using this
 rw[run_convert_bytes_string w src dst e _ 0 cap hs he hd,run_bytesToString w _ 0 cap [] hl,foldl_push_bytes]
 simp[ByteArray.empty,ByteArray.emptyWithCapacity]
theorem Uz(h:Inv G n D E a w){op:Op}{ty:TypeId}{x:IX}(hc:ao P op ty (.fo x)=true){av:AV}(hv:gx (pv (.fo x) (xg true E) E) av):
 ∃v,runs P a op ty w v/\NR G w E a av v:=by
 cases op<;>first|(simp[ao]at hc;done)|skip
 rename_i s t y
 simp only[ao,Bool.and_eq_true]at hc
 obtain⟨hy,hc⟩:=hc
 split at hc<;>try(cases hc;done)
 rename_i e hs ht
 split at hc<;>try(cases hc;done)
 rename_i he
 have hb:=BR.aN h hy
 have hv':gx (sA (xg true E x)) av:=hv
 generalize xg true E x=xv at hb hv'
 unfold sA at hv'
 split at hv'<;>try(exact hv'.no.elim)
 rename_i ow sz m cs
 cases hsz:sz==1 with
 |false=>rw[hsz]at hv';exact hv'.no.elim
 |true=>
 rw[hsz]at hv'
 obtain rfl:=beq_iff_eq.1 hsz
 have hv2:gx (Yi (bytesOf cs)) av:=hv'
 cases hbs:bytesOf cs with
 |none=>rw[hbs]at hv2;exact hv2.no.elim
 |some l=>
 rw[hbs]at hv2
 obtain rfl:=hv2.dv
 obtain rfl:=Ab hbs
 refine⟨.string ⟨l.toArray⟩,fun _ _ _ _=>?_,NR.mk rfl (.str l) rfl⟩
 rcases VR.hZ hb with⟨e1,_,hl0⟩|⟨b,off,cap,e1,hlen,_,_,u,u1,u2,_⟩
 ·have:l=[]:=by simpa using hl0
  subst this
  rcases e1 with e1|⟨_,ad,cap,e1⟩
  ·have:=run_convert_bytes_nil (P:=P) w s e hs he 0 0 t ht
   simp[execOp,e1,this]
   rfl
  ·have:=kW (P:=P) w s e hs he ad cap t ht
   simp[execOp,e1,this]
   rfl
 ·have hm:l.length=m:=by simpa using hlen
  have:=run_convert_bytes_arg (P:=P) w s e hs he b off m cap (l.map fun c=>(c.toNat:Int)) (by simpa using hm) (fun i hi=>by
   have hil:i<l.length:=by omega
   have hc0:(l.map fun c=>AV.int .u8 c.toNat)[i]? =some (.int .u8 l[i].toNat):=by simp[hil]
   rw[u1 i _ hc0,VR.ct (u2 i _ hc0)]
   simp[List.getD_eq_getElem?_getD,hil]) t ht
  have hs2:strOfNums (l.map fun c=>(c.toNat:Int))=⟨l.toArray⟩:=by
   unfold strOfNums
   congr 2
   simp[Function.comp_def]
  rw[hs2]at this
  simp[execOp,e1,this]
end
theorem aaQ(off:Nat):∀(l:List Value)(s:Nat)(cells:Array Value),
 ((l.zipIdx s).foldl (fun cs(x:Value×Nat)=>cs.setIfInBounds (off+x.2) x.1) cells).size=cells.size/\
 ∀k,((l.zipIdx s).foldl (fun cs(x:Value×Nat)=>cs.setIfInBounds (off+x.2) x.1) cells)[k]? =
  if off+s<=k/\k<off+s+l.length/\k<cells.size then l[k -(off+s)]? else cells[k]? :=by
 intro l
 induction l with
 |nil=>
  intro s cells
  refine⟨rfl,fun k=>?_⟩
  rw[if_neg (by simp;omega)];rfl
 |cons v l ih=>
  intro s cells
  rw[List.zipIdx_cons,List.foldl_cons]
  obtain⟨h1,h2⟩:=ih (s+1) (cells.setIfInBounds (off+s) v)
  refine⟨by rw[h1];simp,fun k=>?_⟩
  rw[h2 k]
  simp only[Array.size_setIfInBounds,List.length_cons]
  by_cases hk:k=off+s
  ·subst hk
   rw[if_neg (by omega)]
   by_cases hs:off+s<cells.size
   ·rw[if_pos ⟨by omega,by omega,hs⟩]
    simp[hs]
   ·rw[if_neg (by omega),Array.getElem?_eq_none (by simp;omega),Array.getElem?_eq_none (by omega)]
  ·by_cases hc:off+(s+1)<=k/\k<off+(s+1)+l.length/\k<cells.size
   ·rw[if_pos hc,if_pos (by omega)]
    have:k -(off+s)=(k -(off+(s+1)))+1:=by omega
    rw[this,List.getElem?_cons_succ]
   ·rw[if_neg hc,if_neg (by omega),Array.getElem?_setIfInBounds_ne (by omega)]
section
variable{P:Program}{G:Gh}{n:Nat}{D:List Deferred}{E:St}{a:Act}{w:World}
def Row(w:World)(R:Nat->Nat)(cs:List AV)(vs:Array Value):Prop:=vs.size=cs.length/\(∀(j:Nat)(c:AV)(u:Value),cs[j]? =some c->vs[j]? =some u->VR w R c u)/\Fl cs
theorem gM{R:Nat->Nat}{av:AV}{v:Value}(hi:dt av=true)(h:VR w R av v):Row w R (cellsOf av) v.cells:=by
 have key:(∃cs,av=.agg cs)\/(cellsOf av=[av]/\v.cells= #[v]/\ry av=true):=by cases h<;>first|exact .inl ⟨_,rfl⟩|exact .inr ⟨rfl,rfl,rfl⟩|(rename_i hb _;cases hb<;>exact .inr ⟨rfl,rfl,rfl⟩)|(rename_i BV;exact .inr ⟨rfl,by cases v<;>first|rfl|(cases BV;done),rfl⟩)|(simp[dt]at hi)
 rcases key with⟨cs,rfl⟩|⟨h1,h2,h3⟩
 ·obtain⟨vs,rfl,hl,hr,hf⟩:=VR.sI h
  exact⟨hl,hr,hf⟩
 ·rw[h1,h2]
  refine⟨rfl,fun j c u hc hu=>?_,fun c hc=>?_⟩
  rotate_left
  ·rw[List.mem_singleton]at hc;subst hc;exact h3
  cases j with
  |succ j=>simp at hc
  |zero=>simp at hc hu;subst hc;subst hu;exact h
theorem Row.views{R:Nat->Nat}{cs:List AV}{vs:Array Value}(h:Row w R cs vs):Row w R (views cs) vs:=by
 refine⟨by simp[AB.views,h.1],fun j c u hc hu=>?_,h.2.2.views⟩
 rw[eK]at hc
 cases hj:cs[j]? with
 |none=>rw[hj]at hc;cases hc
 |some c'=>
  rw[hj]at hc;simp at hc
  rw[<-hc];exact(h.2.1 j c' u hj hu).view
theorem oY(cs news:List AV)(off k:Nat)(h:off+news.length<=cs.length):(setAt cs off news)[k]? =if off<=k/\k<off+news.length then news[k -off]? else cs[k]? :=by
 unfold setAt
 rw[List.append_assoc]
 by_cases h1:k<off
 ·rw[if_neg (by omega),List.getElem?_append_left (by simp;omega),List.getElem?_take,if_pos h1]
 ·rw[List.getElem?_append_right (by simp;omega)]
  have hl:(cs.take off).length=off:=by simp;omega
  rw[hl]
  by_cases h2:k<off+news.length
  ·rw[if_pos ⟨by omega,h2⟩,List.getElem?_append_left (by omega)]
  ·rw[if_neg (by omega),List.getElem?_append_right (by omega),List.getElem?_drop]
   congr 1
   omega
theorem mL(cs news:List AV)(off:Nat)(h:off+news.length<=cs.length):(setAt cs off news).length=cs.length:=by unfold setAt;simp;omega
theorem Fl.setAt{cs news:List AV}(h:Fl cs)(k:Fl news)(off:Nat):Fl (setAt cs off news):=by
 intro c hc
 unfold AB.setAt at hc
 rcases List.mem_append.1 hc with hc|hc
 ·rcases List.mem_append.1 hc with hc|hc
  ·exact h c (List.mem_of_mem_take hc)
  ·exact k c hc
 ·exact h c (List.mem_of_mem_drop hc)
theorem CW.setAt{t:Nat}{cs news:List AV}(h:CW t cs)(k:Fl news)(off:Nat):CW t (AB.setAt cs off news):=by
 intro c hc
 unfold AB.setAt at hc
 simp only[List.mem_append]at hc
 rcases hc with(hc|hc)|hc
 ·exact h c (List.mem_of_mem_take hc)
 ·exact .inl (k c hc)
 ·exact h c (List.mem_of_mem_drop hc)
theorem Row.setAt{R:Nat->Nat}{cs news:List AV}{vs us:Array Value}{off:Nat}(h:Row w R cs vs)(k:Row w R news us)(dL:off+news.length<=cs.length):
 Row w R (setAt cs off news) (us.zipIdx.foldl (fun cs(x:Value×Nat)=>cs.setIfInBounds (off+x.2) x.1) vs):=by
 have e:us.zipIdx.foldl (fun cs(x:Value×Nat)=>cs.setIfInBounds (off+x.2) x.1) vs=(us.toList.zipIdx 0).foldl (fun cs(x:Value×Nat)=>cs.setIfInBounds (off+x.2) x.1) vs:=by rw[<-Array.foldl_toList,Array.toList_zipIdx]
 rw[e]
 obtain⟨h1,h2⟩:=aaQ off us.toList 0 vs
 refine⟨by rw[h1,mL _ _ _ dL,h.1],fun j c u hc hu=>?_,Fl.setAt h.2.2 k.2.2 off⟩
 rw[h2 j]at hu
 rw[oY _ _ _ _ dL]at hc
 have hus:=k.1
 have hvs:=h.1
 by_cases hj:off<=j/\j<off+news.length
 ·rw[if_pos hj]at hc
  rw[if_pos (by simp;omega)]at hu
  exact k.2.1 (j -off) c u hc (by simpa using hu)
 ·rw[if_neg hj]at hc
  rw[if_neg (by simp;omega)]at hu
  exact h.2.1 j c u hc hu
theorem sB(h:Inv G n D E a w){f:IX->AV}(hf:∀(o:Operand)(x:IX),bJ o x=true->dt (f x)=true->VR w G.R (f x) (a.eval o))(place:Nat->Option (Nat×Nat)):
 ∀(qs:List (Nat×Operand))(ps:List (Nat×Nat×IX))(cs ds:List AV)(vs:Array Value),
  (qs.length=ps.length/\∀(j:Nat)(q:Nat×Operand)(p:Nat×Nat×IX),qs[j]? =some q->ps[j]? =some p->place q.1=some (p.1,p.2.1)/\bJ q.2 p.2.2=true)->
  Row w G.R cs vs->fill f cs ps=some ds->∃us,Instr.fill place vs (qs.map fun q=>(q.1,a.eval q.2))=some us/\Row w G.R ds us:=by
 intro qs
 induction qs with
 |nil=>
  intro ps cs ds vs hc hr hfl
  cases ps with
  |nil=>injection hfl with hfl;subst hfl;exact⟨vs,rfl,hr⟩
  |cons _ _=>simp at hc
 |cons q qs ih=>
  intro ps cs ds vs hc hr hfl
  cases ps with
  |nil=>simp at hc
  |cons p ps=>
   obtain⟨off,m,x⟩:=p
   obtain⟨hlen,eo⟩:=hc
   obtain⟨hp,hx⟩:=eo 0 q (off,m,x) rfl rfl
   simp only[fill]at hfl
   cases SQ:(dt (f x)&&((views (cellsOf (f x))).length==m&&decide (off+m<=cs.length)))with
   |false=>rw[SQ]at hfl;cases hfl
   |true=>
    rw[SQ]at hfl
    simp only[Bool.and_eq_true,beq_iff_eq,decide_eq_true_eq]at SQ
    obtain⟨hi,hm,dL⟩:=SQ
    have eI:=(gM hi (hf q.2 x hx hi)).views
    have hsz:(a.eval q.2).cells.size=m:=by rw[eI.1,hm]
    have hcs:off+(a.eval q.2).cells.size<=vs.size:=by rw[hsz,hr.1];exact dL
    have hr':=hr.setAt eI (off:=off) (by rw[hm];exact dL)
    obtain⟨us,h1,h2⟩:=ih ps _ ds _ ⟨by simpa using hlen,fun j q' p' hq hp'=>eo (j+1) q' p' (by simpa using hq) (by simpa using hp')⟩ hr' hfl
    refine⟨us,?_,h2⟩
    simp only[List.map_cons,Instr.fill,hp]
    rw[if_neg (by simp[hsz];omega)]
    exact h1
theorem RP{fs:Array Field}:∀(qs:List (Nat×Operand))(ps:List (Nat×Nat×IX)),Cx P fs qs ps=true->
 qs.length=ps.length/\∀(j:Nat)(q:Nat×Operand)(p:Nat×Nat×IX),qs[j]? =some q->ps[j]? =some p->(∃f,fs[q.1]? =some f/\f.offset=p.1/\c8 P f.type p.2.1=true)/\bJ q.2 p.2.2=true:=by
 intro qs
 induction qs with
 |nil=>intro ps hp;cases ps with
  |nil=>exact⟨rfl,fun j q p hq=>by simp at hq⟩
  |cons _ _=>simp[Cx]at hp
 |cons q qs ih=>intro ps hp;cases ps with
  |nil=>simp[Cx]at hp
  |cons p ps=>
   obtain⟨off,m,x⟩:=p
   obtain⟨i,o⟩:=q
   simp only[Cx,Bool.and_eq_true]at hp
   obtain⟨⟨h1,h2⟩,h3⟩:=hp
   obtain⟨h4,h5⟩:=ih ps h3
   refine⟨by simp[h4],fun j q' p' hq hp'=>?_⟩
   cases j with
   |zero=>
    simp at hq hp'
    subst hq;subst hp'
    split at h1
    ·rename_i f hf
     simp only[Bool.and_eq_true,beq_iff_eq]at h1
     exact⟨⟨f,hf,h1.1,h1.2⟩,h2⟩
    ·cases h1
   |succ j=>exact h5 j q' p' (by simpa using hq) (by simpa using hp')
theorem zw{sz:Nat}:∀(qs:List (Nat×Operand))(ps:List (Nat×Nat×IX)),we sz qs ps=true->
 qs.length=ps.length/\∀(j:Nat)(q:Nat×Operand)(p:Nat×Nat×IX),qs[j]? =some q->ps[j]? =some p->(q.1*sz=p.1/\p.2.1=sz)/\bJ q.2 p.2.2=true:=by
 intro qs
 induction qs with
 |nil=>intro ps hp;cases ps with
  |nil=>exact⟨rfl,fun j q p hq=>by simp at hq⟩
  |cons _ _=>simp[we]at hp
 |cons q qs ih=>intro ps hp;cases ps with
  |nil=>simp[we]at hp
  |cons p ps=>
   obtain⟨off,m,x⟩:=p
   obtain⟨i,o⟩:=q
   simp only[we,Bool.and_eq_true,beq_iff_eq]at hp
   obtain⟨⟨⟨h0,h1⟩,h2⟩,h3⟩:=hp
   obtain⟨h4,h5⟩:=ih ps h3
   refine⟨by simp[h4],fun j q' p' hq hp'=>?_⟩
   cases j with
   |zero=>simp at hq hp';subst hq;subst hp';exact⟨⟨h0,h1⟩,h2⟩
   |succ j=>exact h5 j q' p' (by simpa using hq) (by simpa using hp')
theorem xu{t:TypeId}{z:List AV}(h:qb P t z=true):∃i v,P.info? t=some i/\i.zero=some v/\i.size=z.length/\(∀(w:World)(R:Nat->Nat),Row w R z v.cells)/\(∀(j:Nat)(c:AV)(u:Value),z[j]? =some c->v.cells[j]? =some u->cR u c=true):=by
 unfold qb at h
 split at h
 ·rename_i i hi
  split at h
  ·rename_i v hv
   simp only[Bool.and_eq_true,beq_iff_eq]at h
   obtain⟨h1,h2⟩:=ET h.1
   exact⟨i,v,hi,hv,h.2,fun w R=>⟨by simpa using h1,fun j c u hc hu=>uH (h2 j c u hc (by simpa using hu)) w R,FB h.1⟩,fun j c u hc hu=>h2 j c u hc (by simpa using hu)⟩
  ·cases h
 ·cases h
theorem PC(w:World):∀(fs:List Field),(∀f∈fs,(P.info? f.type).isSome=true)->
 (fs.mapM (m:=Sem) fun f=>Prod.mk f.offset<$>sizeOf f.type).run P w=.ok (fs.map fun f=>(f.offset,P.cellsOf f.type)) w:=by
 intro fs
 induction fs with
 |nil=>intro _;rfl
 |cons f fs ih=>
  intro h
  have hf:=h f (by simp)
  cases hi:P.info? f.type with
  |none=>rw[hi]at hf;cases hf
  |some i=>
   simp[List.mapM_cons,sizeOf,typeInfo,hi,Program.cellsOf]at ih⊢
   rw[ih fun f hf=>h f (by simp[hf])]
   simp
theorem XO(h:Inv G n D E a w){op:Op}{ty:TypeId}{z:List AV}{ps:List (Nat×Nat×IX)}(hc:ao P op ty (.build z ps)=true){av:AV}(hv:gx (pv (.build z ps) (xg true E) E) av):
 ∃v,runs P a op ty w v/\NR G w E a av v:=by
 cases op<;>first|(simp[ao]at hc;done)|skip
 rename_i t qs
 simp only[ao,Bool.and_eq_true]at hc
 obtain⟨hz,hc⟩:=hc
 obtain⟨ti,zv,hti,hzv,hsz,eI,_⟩:=xu hz
 have hv':gx (Ft (fill (xg true E) z ps)) av:=hv
 cases hfl:fill (xg true E) z ps with
 |none=>rw[hfl]at hv';exact hv'.no.elim
 |some ds=>
  rw[hfl]at hv'
  have hav:av=.agg ds:=hv'.dv
  subst hav
  have hzr:(zeroValue t).run P w=.ok zv w:=by simp[zeroValue,typeInfo,hti,hzv]
  have hf:∀(o:Operand)(x:IX),bJ o x=true->dt (xg true E x)=true->VR w G.R (xg true E x) (a.eval o):=fun o x hx hi=>(BR.aN h hx).vr hi
  split at hc<;>try(cases hc;done)
  ·rename_i fs ht
   rw[Bool.and_eq_true]at hc
   obtain⟨hp,eo⟩:=hc
   obtain⟨hl,hp⟩:=RP _ _ hp
   have Zq:(fs.mapM (m:=Sem) fun f=>Prod.mk f.offset<$>sizeOf f.type).run P w=.ok (fs.map fun f=>(f.offset,P.cellsOf f.type)) w:=by
    have:=PC (P:=P) w fs.toList (fun f hf=>by
     have:=Array.all_eq_true'.1 eo f (by simpa using hf)
     exact this)
    rw[Array.mapM_eq_mapM_toList]
    simp only[Sem.run_map,this,Result.andThen_ok]
    congr 1
    apply Array.ext'
    simp
   obtain⟨us,h1,h2⟩:=sB h hf ((fs.map fun f=>(f.offset,P.cellsOf f.type))[·]?) qs.toList ps z ds zv.cells
    ⟨hl,fun j q p hq hp'=>by
      obtain⟨⟨f,hf1,hf2,hf3⟩,hx⟩:=hp j q p hq hp'
      obtain⟨i,hi1,hi2⟩:=mM hf3
      refine⟨?_,hx⟩
      simp[hf1,hf2,Program.cellsOf,hi1,hi2]⟩ (eI w G.R) hfl
   refine⟨.agg us,fun _ _ _ _=>?_,NR.mk rfl (.agg _ _ h2.2.2 h2.1 h2.2.1) rfl⟩
   simp only[Array.getElem?_map]at h1
   simp[execOp,Instr.build,hzr,run_underlying ht,Zq,h1]
  ·rename_i m e ht
   split at hc<;>try(cases hc;done)
   rename_i ei hei
   obtain⟨hl,hp⟩:=zw _ _ hc
   obtain⟨us,h1,h2⟩:=sB h hf (fun i=>some (i*ei.size,ei.size)) qs.toList ps z ds zv.cells
    ⟨hl,fun j q p hq hp'=>by
      obtain⟨⟨e1,e2⟩,hx⟩:=hp j q p hq hp'
      exact⟨by rw[e1,e2],hx⟩⟩ (eI w G.R) hfl
   refine⟨.agg us,fun _ _ _ _=>?_,NR.mk rfl (.agg _ _ h2.2.2 h2.1 h2.2.1) rfl⟩
   simp[execOp,Instr.build,hzr,run_underlying ht,sizeOf,typeInfo,hei,h1]
theorem uF(h:Inv G n D E a w){f:IX->AV}(hf:∀(o:Operand)(x:IX),bJ o x=true->dt (f x)=true->VR w G.R (f x) (a.eval o)):
 ∀(os:List Operand)(xs:List IX)(as:List AV),iL os xs=true->bZ f xs=some as->as.length=os.length/\(∀c∈as,dt c=true/\view c=c)/\
  ∀(j:Nat)(c:AV)(u:Value),as[j]? =some c->(os.map a.eval)[j]? =some u->VR w G.R c u:=by
 intro os
 induction os with
 |nil=>
  intro xs as hc hv
  cases xs with
  |nil=>injection hv with hv;subst hv;exact⟨rfl,by simp,fun j c u hc=>by simp at hc⟩
  |cons _ _=>simp[iL]at hc
 |cons o os ih=>
  intro xs as hc hv
  cases xs with
  |nil=>simp[iL]at hc
  |cons x xs=>
   simp only[iL,Bool.and_eq_true]at hc
   simp only[bZ]at hv
   cases hr:bZ f xs with
   |none=>rw[hr]at hv;simp[TJ]at hv
   |some as'=>
    rw[hr]at hv
    simp only[TJ]at hv
    cases hi:dt (f x)with
    |false=>rw[hi]at hv;cases hv
    |true=>
     rw[hi]at hv
     injection hv with hv;subst hv
     obtain⟨h1,h2,h3⟩:=ih xs as' hc.2 hr
     refine⟨by simp[h1],?_,fun j c u hcj hu=>?_⟩
     ·intro c hcm
      rcases List.mem_cons.1 hcm with rfl|hcm
      ·exact⟨lI hi,mT _⟩
      ·exact h2 c hcm
     ·cases j with
      |zero=>simp at hcj hu;subst hcj;subst hu;exact(hf o x hc.1 hi).view
      |succ j=>exact h3 j c u (by simpa using hcj) (by simpa using hu)
theorem UA(h:Inv G n D E a w){op:Op}{ty:TypeId}{fi:Nat}{fs cs:List IX}(hc:ao P op ty (.kq fi fs cs)=true){av:AV}(hv:gx (pv (.kq fi fs cs) (xg true E) E) av):
 ∃v,runs P a op ty w v/\NR G w E a av v:=by
 cases op<;>first|(simp[ao]at hc;done)|skip
 rename_i g c d
 cases g<;>first|(simp[ao]at hc;done)|skip
 rename_i g
 simp only[ao,Bool.and_eq_true,beq_iff_eq]at hc
 obtain⟨⟨rfl,h1⟩,h2⟩:=hc
 have hf:∀(o:Operand)(x:IX),bJ o x=true->dt (xg true E x)=true->VR w G.R (xg true E x) (a.eval o):=fun o x hx hi=>(BR.aN h hx).vr hi
 have hv':gx (w9 fi (bZ (xg true E) fs) (bZ (xg true E) cs)) av:=hv
 unfold w9 at hv'
 split at hv'
 ·rename_i x y hx hy
  have hav:=hv'.dv
  subst hav
  obtain⟨a1,_,a3⟩:=uF h hf _ _ _ h1 hx
  obtain⟨b1,_,b3⟩:=uF h hf _ _ _ h2 hy
  refine⟨.func (.func fi) (c.map a.eval) (d.map a.eval),fun _ _ _ _=>by simp[execOp,Instr.makeFunc],NR.mk rfl (.fn fi x y _ _ ?_ (fun j c' u hc' hu=>a3 j c' u hc' ?_) ?_ (fun j c' u hc' hu=>b3 j c' u hc' ?_)) rfl⟩
  ·simpa using a1.symm
  ·simpa using hu
  ·simpa using b1.symm
  ·simpa using hu
 ·exact hv'.no.elim
theorem UB(h:Inv G n D E a w){op:Op}{ty:TypeId}{mx:Bool}{xs:List IX}(hc:ao P op ty (.fP mx xs)=true){av:AV}(hv:gx (pv (.fP mx xs) (xg true E) E) av):
 ∃v,runs P a op ty w v/\NR G w E a av v:=by
 have key:∀(ys:List Operand),iL ys xs=true->∃(k:IntKind)(m:Int)(y:Operand)(ys':List Operand),ys=y::ys'/\av=.int k m/\∃m0,a.eval y=.int k m0/\
  ((ys'.map a.eval).foldlM (if mx then Builtin.max2 else Builtin.min2) (.int k m0)).run P w=.ok (.int k m) w:=by
  intro ys hx
  have hv':gx (xc mx (xs.map (xg true E))) av:=hv
  cases xs with
  |nil=>exact hv'.no.elim
  |cons x xs=>
   cases ys with
   |nil=>simp[iL]at hx
   |cons y ys=>
    simp only[iL,Bool.and_eq_true]at hx
    have hb:=BR.aN h hx.1
    simp only[List.map_cons]at hv'
    generalize xg true E x=xv at hb hv'
    cases xv<;>simp only[xc]at hv'<;>try(exact hv'.no.elim)
    rename_i k m0
    cases hr:PF mx m0 (xs.map (xg true E))with
    |none=>rw[hr]at hv';exact hv'.no.elim
    |some r=>
     rw[hr]at hv'
     have hav:av=.int k r:=hv'.dv
     exact⟨k,r,y,ys,rfl,hav,m0,VR.ct hb,ZL mx k h xs ys hx.2 m0 r hr⟩
 cases op<;>first|(cases mx<;>simp[ao]at hc;done)|skip
 rename_i c
 cases mx with
 |true=>
  simp only[ao]at hc
  split at hc<;>try(cases hc;done)
  rename_i ys ts hb
  have hce:=ss hb
  subst hce
  obtain⟨k,m,y,ys',rfl,rfl,m0,e0,hr⟩:=key ys hc
  refine⟨.int k m,fun _ _ _ _=>?_,NR.mk rfl (.int _ _) rfl⟩
  simp only[if_true]at hr
  simp[execOp,resolve,invoke,builtin,Builtin.max_,e0,hr]
 |false=>
  simp only[ao]at hc
  split at hc<;>try(cases hc;done)
  rename_i ys ts hb
  have hce:=ss hb
  subst hce
  obtain⟨k,m,y,ys',rfl,rfl,m0,e0,hr⟩:=key ys hc
  refine⟨.int k m,fun _ _ _ _=>?_,NR.mk rfl (.int _ _) rfl⟩
  simp only[Bool.false_eq_true,if_false]at hr
  simp[execOp,resolve,invoke,builtin,Builtin.min_,e0,hr]
theorem adU(h:Inv G n D E a w){op:Op}{ty:TypeId}{x:IX}(hc:ao P op ty (.cap x)=true){av:AV}(hv:gx (pv (.cap x) (xg true E) E) av):
 ∃v,runs P a op ty w v/\NR G w E a av v:=by
 cases op<;>first|(simp[ao]at hc;done)|skip
 rename_i c
 simp only[ao]at hc
 split at hc<;>try(cases hc;done)
 rename_i y ys t ts hb
 have hce:=ss hb
 subst hce
 simp only[Bool.and_eq_true]at hc
 obtain⟨hy,hsl⟩:=hc
 have hv':gx (QJ (xg true E x)) av:=hv
 have hbx:=BR.aN h hy
 generalize xg true E x=xv at hbx hv'
 cases he:dp P t with
 |none=>rw[he]at hsl;cases hsl
 |some e=>
 have ht:=dw he
 unfold QJ at hv'
 split at hv'
 ·rename_i b o l cap
  rw[hv'.dv]
  refine⟨.int .i64 cap,fun _ _ _ _=>?_,NR.mk rfl (.int _ _) rfl⟩
  have hr:∀w',w'=w->(Builtin.cap_ (t::ts).toArray ty ((y::ys).toArray.map a.eval)).run P w'=.ok (.int .i64 cap) w':=fun w' _=>by rcases VR.cd hbx with e1|⟨_,rfl,e1⟩<;>simp[Builtin.cap_,run_underlying ht,goInt,e1]
  have hr:=hr w rfl
  simp[execOp,resolve,invoke,builtin]at hr⊢;simp[hr]
 ·exact hv'.no.elim
theorem Zv{t:TypeId}(h:Zu P t=true):∃k,P.underlying t=some (.int k):=by
 unfold Zu at h
 split at h
 ·exact⟨_,by assumption⟩
 ·cases h
theorem VR.Wv{R:Nat->Nat}{v:Value}(h:VR w R .oK v):v=.nilFunc:=by cases h;rfl
theorem adX(h:Inv G n D E a w){op:Op}{ty:TypeId}{ne:Bool}{x:IX}(hc:ao P op ty (.Za ne x)=true){av:AV}(hv:gx (pv (.Za ne x) (xg true E) E) av):
 ∃v,runs P a op ty w v/\NR G w E a av v:=by
 cases op<;>first|(simp[ao]at hc;done)|skip
 rename_i b t u v yt
 simp only[ao,Bool.and_eq_true,decide_eq_true_eq]at hc
 obtain⟨⟨⟨rfl,hx⟩,hy⟩,ht⟩:=hc
 have e2:a.eval v=.nilFunc:=by
  split at hy
  ·rfl
  ·cases hy
 split at ht<;>try(cases ht;done)
 rename_i q1 q2 q3 htu
 have hbx:=BR.aN h hx
 have hv':gx (Ot ne (xg true E x)) av:=hv
 generalize xg true E x=xv at hbx hv'
 have key:∀(fv:Value)(r:Bool),a.eval u=fv->(∀d:Nat,(Op.equalIn (d+1) t fv .nilFunc).run P w=.ok r w)->runs P a (.binOp (if ne=true then .neq else .eql) t u v yt) ty w (.bool (r !=ne)):=by
  intro fv r e1 hr _ _ _ _
  have hq:(Op.equal t fv .nilFunc).run P w=.ok r w:=hr 9999
  cases fv<;>cases ne<;>simp[execOp,e1,e2,eqGuard,binOp,hq]
 unfold Ot at hv'
 split at hv'
 ·rename_i f first en
  rw[hv'.dv]
  obtain⟨vf,vc,e1,_⟩:=VR.Rc hbx
  have:=key _ false e1 fun d=>by simp[Op.equalIn,run_underlying htu]
  exact⟨_,this,NR.mk rfl (by cases ne<;>exact .bool _) rfl⟩
 ·rw[hv'.dv]
  have e1:=VR.Wv hbx
  have:=key _ true e1 fun d=>by simp[Op.equalIn,run_underlying htu]
  exact⟨_,this,NR.mk rfl (by cases ne<;>exact .bool _) rfl⟩
 ·exact hv'.no.elim
theorem Bg(h:Inv G n D E a w){op:Op}{ty:TypeId}{o:ua}(hc:ao P op ty o=true){av:AV}(hv:gx (pv o (xg true E) E) av):
 ∃v,runs P a op ty w v/\NR G w E a av v:=by
 cases o with
 |jL tr x=>cases tr with
  |false=>exact ad0 h hc hv
  |true=>exact(gx.no hv).elim
 |pick c x y=>exact aac h hc hv
 |bin b x y=>exact adT h hc hv
 |U4 ne x y=>exact adW h hc hv
 |Ov ne x y=>exact adY h hc hv
 |un u x=>exact aif h hc hv
 |jI k x=>exact Uy h hc hv
 |load m mu x=>exact MU h hc hv
 |iK x i=>exact UC h hc hv
 |nilCheck x=>exact PU h hc hv
 |fieldAddr off x=>exact MS h hc hv
 |indexAddr sz x i=>exact MT h hc hv
 |slice sz x lo hi mx=>exact XT h hc hv
 |qW x lo hi=>exact UD h hc hv
 |len cls x=>exact adZ h hc hv
 |fP mx xs=>exact UB h hc hv
 |extract x k=>exact RU h hc hv
 |build z ps=>exact XO h hc hv
 |kq f a b=>exact UA h hc hv
 |fo x=>exact Uz h hc hv
 |bf z m x=>exact XS h hc hv
 |mh k x=>exact XQ h hc hv
 |cap x=>exact adU h hc hv
 |Za ne x=>exact adX h hc hv
 |_=>exact(gx.no hv).elim
end
end Go.AB
end
section
namespace Go.AB
open Go
def Gh.sk(G:Gh)(b:Nat)(o:cS)(r:Nat):Gh:=⟨fun i=>if i=b then r else G.R i,fun i=>if i=b then o else G.O i⟩
@[simp]theorem Gh.acd(G:Gh)(b:Nat)(o:cS)(r i:Nat):(G.sk b o r).O i=if i=b then o else G.O i:=rfl
@[simp]theorem Gh.ai4(G:Gh)(b:Nat)(o:cS)(r i:Nat):(G.sk b o r).R i=if i=b then r else G.R i:=rfl
def Gh.kV(G:Gh)(o o':cS):Gh:=⟨G.R,fun i=>if G.O i=o then o' else G.O i⟩
@[simp]theorem Gh.aau(G:Gh)(o o':cS)(i:Nat):(G.kV o o').O i=if G.O i=o then o' else G.O i:=rfl
section
variable{P:Program}{G G':Gh}{n:Nat}{D:List Deferred}{E:St}{a:Act}{w w':World}
theorem aP.Ds{s:ab}(h:aP G w s)(hv:∀a v,VR w G.R a v->VR w' G'.R a v)
 (hsh:∀b,G.O b=.sh->G'.O b=.sh/\G'.R b=G.R b/\w'.heap[b]? =w.heap[b]?)
 (dy:∀b c j,G.O b=.sh->G.O c=.cell b j->G'.O c=.cell b j/\G'.R c=G.R c/\w'.heap[c]? =w.heap[c]?):aP G' w' s:=by
 intro b o hb
 obtain⟨h1,h2,h3⟩:=h b o hb
 obtain⟨k1,k2,k3⟩:=hsh b h1
 refine⟨k1,k2.trans h2,?_⟩
 cases o with
 |cells cs=>
  obtain⟨c,t,h4,h5,h6⟩:=h3
  exact⟨c,t,k3.trans h4,h5.mono hv (fun b' j hb'=>dy b b' j h1 hb'),h6⟩
 |map es=>
  obtain⟨iu,clock,h4,h5,h6⟩:=h3
  exact⟨iu,clock,k3.trans h4,h5,fun j x y hx hy=>⟨hv _ _ (h6 j x y hx hy).1,hv _ _ (h6 j x y hx hy).2⟩⟩
theorem aP.mono{s:ab}(h:aP G w s)(hg:b9 G w)(hp:ax G w G' w')
 (hsh:∀b,G.O b=.sh->G'.O b=.sh/\G'.R b=G.R b/\w'.heap[b]? =w.heap[b]?)
 (dy:∀b c j,G.O b=.sh->G.O c=.cell b j->G'.O c=.cell b j/\G'.R c=G.R c/\w'.heap[c]? =w.heap[c]?):aP G' w' s:=
 h.Ds (fun _ _ hv=>hp.vr hg hv) hsh dy
theorem b9.lt(h:b9 G w){b:Nat}(ho:G.O b≠.none):b<w.heap.size:=by
 rcases Nat.lt_or_ge b w.heap.size with hb|hb
 ·exact hb
 ·exact absurd (h.jM b hb) ho
theorem gL(hg:b9 G w)(ob:Obj)(o:cS)(r:Nat):
 b9 (G.sk w.heap.size o r) (w.alloc ob)/\ax G w (G.sk w.heap.size o r) (w.alloc ob)/\
 (∀b,G.O b≠.none->(G.sk w.heap.size o r).O b=G.O b/\(G.sk w.heap.size o r).R b=G.R b/\(w.alloc ob).heap[b]? =w.heap[b]?):=by
 have hsz:(w.alloc ob).heap.size=w.heap.size+1:=Array.size_push ..
 refine⟨⟨fun b hb=>?_,fun b hb=>?_⟩,⟨rfl,rfl,rfl,Nat.le_refl _,by omega,fun b hb=>?_,fun b k hb _=>?_,fun b hb _=>heap_alloc_old w ob b hb,fun b hb ho=>?_,fun b hb ho=>?_⟩,fun b ho=>?_⟩
 ·have:b≠w.heap.size:=by omega
  simp[this,hg.jM b (by omega)]
 ·have:b≠w.heap.size:=by omega
  simp[this,hg.jU b (by omega)]
 ·have:b≠w.heap.size:=by omega
  simp[this]
 ·exact World.cell?_of_block (heap_alloc_old w ob b hb)
 ·have:b≠w.heap.size:=by omega
  simp[this,ho]
 ·have:b≠w.heap.size:=by omega
  simp[this,ho]
 ·have hb:=hg.lt ho
  have:b≠w.heap.size:=by omega
  exact⟨by simp[this],by simp[this],heap_alloc_old w ob b hb⟩
theorem ng{s:ab}(h:aP G w s)(hg:b9 G w)(ob:Obj)(o:cS)(r:Nat):aP (G.sk w.heap.size o r) (w.alloc ob) s:=by
 obtain⟨_,h2,h3⟩:=gL hg ob o r
 refine h.mono hg h2 (fun b hb=>?_) (fun b c j _ hc=>?_)
 ·obtain⟨k1,k2,k3⟩:=h3 b (by rw[hb];simp)
  exact⟨k1.trans hb,k2,k3⟩
 ·obtain⟨k1,k2,k3⟩:=h3 c (by rw[hc];simp)
  exact⟨k1.trans hc,k2,k3⟩
theorem Inv.alloc(h:Inv G n D E a w)(ob:Obj)(o:cS)(r:Nat){s':ab}(d:Option Nat)(hd:bp n d=true)(av:AV)(v:Value)(lp':List (Nat×Nat))
 (hst:aP (G.sk w.heap.size o r) (w.alloc ob) s')
 (hlp:∀x∈E.lp,x∈lp')(acZ:∀i t,d=some i->bB av t->(i,t)∈lp')
 (Wd:∀i t,d=some i->(∃cs,av=.loc cs)->(t,i)∉E.lp)
 (Wi:∀i,d=some i->dg (G.sk w.heap.size o r) (w.alloc ob) ((E.put d av).e) (a.put d v).tmps i av v):
 Inv (G.sk w.heap.size o r) n D {(E.put d av)with s:=s',lp:=lp'} (a.put d v) (w.alloc ob)/\ax G w (G.sk w.heap.size o r) (w.alloc ob):=by
 obtain⟨h1,h2,h3⟩:=gL h.aS ob o r
 refine⟨h.put d (fun i hi=>by subst hi;simpa[bp]using hd) av v h1 h2 hst hlp acZ Wd (fun i b _ hb=>h3 b ?_) (fun i b c j _ hb hc=>?_) Wi,h2⟩
 ·rcases hb with⟨j,hb⟩|hb<;>rw[hb]<;>simp
 ·obtain⟨k1,k2,k3⟩:=h3 c (by rw[hc];simp)
  exact⟨k1.trans hc,k2,k3⟩
theorem aP.get_none(h:aP G w E.s)(hg:b9 G w):E.s w.heap.size=none:=by
 cases hs:E.s w.heap.size with
 |none=>rfl
 |some o=>
  have:=(h _ _ hs).1
  rw[hg.jM _ (Nat.le_refl _)]at this
  cases this
theorem Pz{lp:List (Nat×Nat)}{d:Option Nat}(h:lN lp d=true):∀i t,d=some i->(t,i)∉lp:=by
 intro i t hd hm
 subst hd
 simp only[lN,List.all_eq_true]at h
 have:=h _ hm
 simp at this
theorem aX{o:Oper}{v:Value}{next:Act->World->Prop}{Q:Exit->Act->World->Prop}(hr:(execOp a.eval o).run P w=.ok (.value v) w')(hn:next (a.put o.dst v) w'):o.wp P a w next Q:=by
 unfold Oper.wp
 rw[hr]
 exact hn
theorem sm{o:Oper}{next:Act->World->Prop}{Q:Exit->Act->World->Prop}(hr:(execOp a.eval o).run P w=.ok .skip w')(hn:next (a.put o.dst undef) w'):o.wp P a w next Q:=by
 unfold Oper.wp
 rw[hr]
 exact hn
theorem Inv.Tj(h:Inv G n D E a w)(i:Nat)(hi:i<n)(av:AV)(hnl:∀t,¬bB av t)(ahg:∀cs,av≠.loc cs)
 (hv:∀v,a.tmps[i]? =some v->dg G w ((E.put (some i) av).e) a.tmps i av v):Inv G n D (E.put (some i) av) a w:=by
 have hlt:i<a.tmps.size:=by rw[h.size];exact hi
 have ha:a.put (some i) a.tmps[i]=a:=by
  have:a.tmps.setIfInBounds i a.tmps[i]=a.tmps:=by rw[Array.setIfInBounds,dif_pos hlt,Array.set_getElem_self]
  simp[Act.put,this]
 have:=h.put (some i) (fun j hj=>by injection hj with hj;subst hj;exact hi) av a.tmps[i] h.aS (ax.refl G w) h.store (fun x hx=>hx) (fun j t _ ht=>(hnl t ht).elim)
  (fun j t _⟨cs,hcs⟩=>(ahg cs hcs).elim) (fun _ b _ _=>⟨rfl,rfl,rfl⟩) (fun _ b c j _ _ hc=>⟨hc,rfl,rfl⟩)
  (fun j hj=>by injection hj with hj;subst hj;rw[ha];exact hv _ (Array.getElem?_eq_getElem hlt))
 rw[ha]at this
 exact this
theorem eQ{av:AV}(h:dt av=true)(t:Nat):¬bB av t:=by cases av<;>simp_all [dt,bB]
theorem oM{av:AV}(h:dt av=true)(cs:List AV):av≠.loc cs:=by cases av<;>simp_all [dt]
theorem Inv.PB(h:Inv G n D E a w){i:Nat}(hi:look E.e i≠.undef):i<n:=by
 rcases Nat.lt_or_ge i n with hlt|hge
 ·exact hlt
 ·exact absurd (h.IT i hge) hi
theorem Vy{o:Operand}{i:Nat}(h:bJ o (.t i)=true):o=.tmp i:=by
 cases o with
 |tmp t=>simp[bJ]at h;rw[h]
 |const v=>cases v<;>simp[bJ]at h
 |_=>simp[bJ]at h
theorem Vw{o:Operand}{c:AV}(h:bJ o (.c c)=true)(G:Gh)(w:World)(T:cS):dm G w T c (a.eval o):=by
 cases o with
 |tmp t=>simp[bJ]at h
 |global g=>simp[bJ]at h
 |func f=>cases c<;>first|trivial|(simp[bJ]at h)
 |const v=>
  show dm G w T c v
  have hc:(∃cs,c=.agg cs)\/cR v c=true:=by
   cases v<;>first|exact .inr h|skip
   cases c<;>first|exact .inl ⟨_,rfl⟩|exact .inr h
  rcases hc with⟨cs,rfl⟩|hc
  ·trivial
  ·exact FA hc G w T
theorem Inv.drain(h:Inv G n D E a w){x:IX}{o:Operand}(hx:bJ o x=true)(hi:dt (E.x x)=true)(T:cS)(hT1:T≠.sh)(hT2:∀i,T≠.loc i):
 ∃G',Inv G' n D (E.drain x) a w/\ax G w G' w/\VR w G'.R (E.x x) (a.eval o)/\dm G' w T (E.x x) (a.eval o)/\G'.R=G.R/\(∀b,G'.O b=.sh↔G.O b=.sh)/\(∀b i,G'.O b=.loc i↔G.O b=.loc i)/\
  (∀b b' j,G.O b=.cell b' j->G'.O b=.cell b' j):=by
 have hvr:VR w G.R (E.x x) (a.eval o):=by
  have:=XR.aN h hx
  generalize E.x x=av at hi this
  cases av<;>first|exact this|(simp[dt]at hi)
 cases x with
 |c c=>
  refine⟨G,h,ax.refl G w,hvr,?_,rfl,fun _=>Iff.rfl,fun _ _=>Iff.rfl,fun _ _ _ hc=>hc⟩
  exact Vw hx G w T
 |t i=>
  have hin:i<n:=h.PB (fun e=>by rw[show E.x (.t i)=look E.e i from rfl,e]at hi;cases hi)
  have ho:o=.tmp i:=Vy hx
  subst ho
  have hlt:i<a.tmps.size:=by rw[h.size];exact hin
  have acX:=h.ch i _ (iE hlt)
  have hi':dt (look E.e i)=true:=hi
  rw[dg.qP hi']at acX
  have hne:∀b,G.O b≠.slot i 0->(G.kV (.slot i 0) T).O b=G.O b:=fun b hb=>by simp[hb]
  have bw:ax G w (G.kV (.slot i 0) T) w:=⟨rfl,rfl,rfl,Nat.le_refl _,Nat.le_refl _,fun _ _=>Nat.le_refl _,fun _ _ _ _=>rfl,fun _ _ _=>rfl,
   fun b _ hb=>⟨by rw[hne b (by rw[hb];simp),hb],rfl⟩,fun b _ hb=>⟨by rw[hne b (by rw[hb];simp),hb],rfl⟩⟩
  refine⟨G.kV (.slot i 0) T,?_,bw,hvr,?_,rfl,fun b=>?_,fun b k=>?_,fun b b' j hb=>by rw[hne b (by rw[hb];simp),hb]⟩
  ·have h1:=h.Tj i hin (view (look E.e i)) (eQ (lI hi')) (oM (lI hi')) (fun v hv=>by
    rw[iE hlt]at hv;injection hv with hv;subst hv
    exact dg.A5 hi' acX.1)
   refine⟨⟨fun b hb=>by rw[hne b (by rw[h.aS.jM b hb];simp),h.aS.jM b hb],h.aS.jU⟩,?_,h1.size,fun k v hk=>?_,h1.IT,h1.Qs,h1.ue⟩
   ·exact h.store.mono h.aS bw (fun b hb=>⟨by rw[hne b (by rw[hb];simp),hb],rfl,rfl⟩) (fun b c j _ hc=>⟨by rw[hne c (by rw[hc];simp),hc],rfl,rfl⟩)
   ·have h2:=h1.ch k v hk
    by_cases hki:k=i
    ·subst hki
     have e1:look (E.put (some k) (view (look E.e k))).e k=view (look E.e k):=by simp[St.put,aM]
     show dg _ w _ _ k (look (E.put (some k) (view (look E.e k))).e k) v
     rw[e1]at h2⊢
     rw[dg.qP (lI hi')]at h2⊢
     exact⟨h2.1,dm.view ..⟩
    ·refine dg.frame (G:=G) (G':=G.kV (.slot i 0) T) (w:=w) (fun _ _ hv=>hv) (fun b hb=>⟨hne b ?_,rfl,rfl⟩) (fun b c j _ hc=>⟨by rw[hne c (by rw[hc];simp),hc],rfl,rfl⟩) _ _ (fun d _ cs hcs=>⟨cs,hcs,rfl⟩) h2
     rcases hb with⟨j,hb⟩|hb
     ·rw[hb];intro e;injection e with e;exact hki e
     ·rw[hb];simp
  ·have:=acX.2
   show dm _ w T (look E.e i) _
   unfold dm at this⊢
   split
   ·rename_i sz m cs he
    rw[he]at this
    intro base m' cap hv hc
    obtain⟨b,off,c,e,fz,q1,q2,q3⟩:=this base m' cap hv hc
    exact⟨b,off,c,e,fz,q1,by simp[q2],q3⟩
   ·rename_i e m cs he
    rw[he]at this
    intro base m' cap hv hc
    obtain⟨b,off,c,fz,q1,q2,q3⟩:=this base m' cap hv hc
    exact⟨b,off,c,fz,q1,by simp[q2],q3⟩
   ·trivial
  ·by_cases hb:G.O b=.slot i 0
   ·simp[hb,hT1]
   ·rw[hne b hb]
  ·by_cases hb:G.O b=.slot i 0
   ·simp[hb,hT2]
   ·rw[hne b hb]
def ri(P:Program)(G:Gh)(n:Nat)(D:List Deferred)(w:World)(a:Act)(op:Op)(ty:TypeId)(d:Option Nat)(K:St->Prop):Prop:=
 ∀(pos:String)(after:Array Edge)(g:Option (Nat×Bool))(next:Act->World->Prop)(Q:Exit->Act->World->Prop),
  (∀G' E' a' w',Inv G' n D E' a' w'->ax G w G' w'->K E'->next a' w')->(⟨d,op,ty,pos,after,g⟩:Oper).wp P a w next Q
theorem Y8(h:Inv G n D E a w){op:Op}{ty:TypeId}{tr:Bool}{x:IX}{d:Option Nat}{K:St->Prop}(hd:bp n d=true)(hc:ao P op ty (.jL tr x)=true)(hw:jf P (.jL tr x) d E K):ri P G n D w a op ty d K:=by
 obtain⟨hi,hk⟩:=hw
 have key:∀y,bJ y x=true->∃G',Inv G' n D ((E.drain x).put d (E.x x)) (a.put d (a.eval y)) w/\ax G w G' w:=by
  intro y hy
  obtain⟨G',h1,h2,h3,h4,_⟩:=h.drain hy hi (match d with|some d=>.slot d 0|none=>.frame) (by cases d<;>simp) (by cases d<;>simp)
  refine⟨G',?_,h2⟩
  have:=h1.put (s':=(E.drain x).s) (lp':=(E.drain x).lp) d (fun i hi=>by subst hi;simpa[bp]using hd) (E.x x) (a.eval y) h1.aS (ax.refl G' w) h1.store (fun _ hx=>hx) (fun i t _ ht=>(eQ hi t ht).elim) (fun i t _⟨cs,hcs⟩=>(oM hi cs hcs).elim)
   (fun _ _ _ _=>⟨rfl,rfl,rfl⟩) (fun _ _ _ _ _ _ hcc=>⟨hcc,rfl,rfl⟩) (fun i hdi=>by
     subst hdi
     rw[dg.qP hi]
     exact⟨h3,h4⟩)
  cases d<;>exact this
 intro pos after g next Q hn
 cases op<;>first|(simp[ao]at hc;done)|skip
 ·rename_i y
  obtain⟨G',h1,h2⟩:=key y hc
  exact aX rfl (hn G' _ _ _ h1 h2 hk)
 ·rename_i y
  obtain⟨G',h1,h2⟩:=key y hc
  exact aX rfl (hn G' _ _ _ h1 h2 hk)
theorem LG{G:Gh}{w:World}{o:Nat->cS}{z:List AV}{c:Array Value}(h:Row w G.R z c)(h2:∀(j:Nat)(x:AV)(u:Value),z[j]? =some x->c[j]? =some u->cR u x=true):du G w o z c:=⟨h.1,fun j x y hx hy=>⟨h.2.1 j x y hx hy,FA (h2 j x y hx hy) G w _⟩⟩
theorem nY{G:Gh}{w:World}{o:Nat->cS}{z:List AV}{c:Array Value}(h:Row w G.R z c):du G w o (views z) c:=
 ⟨h.views.1,fun j x y hx hy=>⟨h.views.2.1 j x y hx hy,by
   rw[eK]at hx
   cases hz:z[j]? with
   |none=>rw[hz]at hx;cases hx
   |some x'=>rw[hz]at hx;simp at hx;rw[<-hx];exact dm.view ..⟩⟩
theorem Row.mono{R R':Nat->Nat}{z:List AV}{c:Array Value}(h:Row w R z c)(hv:∀a v,VR w R a v->VR w' R' a v):Row w' R' z c:=⟨h.1,fun j x y hx hy=>hv _ _ (h.2.1 j x y hx hy),h.2.2⟩
theorem Inv.ahT(h:Inv G n D E a w){d:Option Nat}(hd:bp n d=true)(hf:lN E.lp d=true){cs:List AV}{c:Array Value}{t:TypeId}
 (hcs:∀(G':Gh)(w':World)(o:Nat->cS),ax G w G' w'->du G' w' o cs c)(hfl:Fl cs):
 ∃G',Inv G' n D (E.put d (.loc cs)) (a.put d (.pointer (some ⟨w.heap.size,0,none⟩))) (w.alloc (.cells c t))/\ax G w G' (w.alloc (.cells c t)):=by
 let o:cS:=match d with|some d=>.loc d|none=>.none
 have hp:=(gL h.aS (.cells c t) o 0).2.1
 obtain⟨h1,h2⟩:=h.alloc (.cells c t) o 0 d hd (.loc cs) (.pointer (some ⟨w.heap.size,0,none⟩)) E.lp (ng h.store h.aS _ o 0) (fun _ hx=>hx) (fun i t' _ ht=>ht.elim) (fun i t' hi _=>Pz hf i t' hi)
  (fun i hi=>by
    subst hi
    exact⟨w.heap.size,c,t,rfl,by simp[o],by simp,heap_alloc_new w _,hcs _ _ _ hp,hfl⟩)
 exact⟨_,by cases d<;>exact h1,h2⟩
theorem Inv.abE(h:Inv G n D E a w){d:Option Nat}(hd:bp n d=true){cs:List AV}{c:Array Value}{t:TypeId}{av:AV}{v:Value}(hav:av=.ref w.heap.size 0/\v=.pointer (some ⟨w.heap.size,0,none⟩)\/∃l m,av=.arr w.heap.size 0 l m/\v=.slice (some ⟨w.heap.size,0,none⟩) l m)
 (hcs:∀(G':Gh)(w':World)(o:Nat->cS),ax G w G' w'->du G' w' o cs c)(hfl:CW t cs):
 ∃G',Inv G' n D ({E with s:=E.s.set w.heap.size (.cells cs)}.put d av) (a.put d v) (w.alloc (.cells c t))/\ax G w G' (w.alloc (.cells c t)):=by
 have hp:=(gL h.aS (.cells c t) .sh 0).2.1
 have hs:aP (G.sk w.heap.size .sh 0) (w.alloc (.cells c t)) (E.s.set w.heap.size (.cells cs)):=by
  intro b o hb
  unfold ab.set at hb
  by_cases he:b=w.heap.size
  ·rw[if_pos he]at hb
   injection hb with hb
   subst hb;subst he
   exact⟨by simp,by simp,c,t,heap_alloc_new w _,hcs _ _ _ hp,hfl⟩
  ·rw[if_neg he]at hb
   exact ng h.store h.aS _ .sh 0 b o hb
 have hv:dt av=true/\VR (w.alloc (.cells c t)) (G.sk w.heap.size .sh 0).R av v/\∀sz m cs,av≠.sl true sz m cs:=by
  rcases hav with⟨rfl,rfl⟩|⟨l,m,rfl,rfl⟩
  ·exact⟨rfl,.ref _ _,by simp⟩
  ·exact⟨rfl,.arr _ _ _ _,by simp⟩
 obtain⟨h1,h2⟩:=h.alloc (.cells c t) .sh 0 d hd av v E.lp hs (fun _ hx=>hx) (fun i t' _ ht=>(eQ hv.1 t' ht).elim) (fun i t' _⟨cs',DK⟩=>(oM hv.1 cs' DK).elim)
  (fun i hi=>by
    rw[dg.qP hv.1]
    refine⟨hv.2.1,?_⟩
    rcases hav with⟨e,_⟩|⟨l,m,e,_⟩<;>rw[e]<;>trivial)
 refine⟨_,?_,h2⟩
 cases d<;>exact h1
theorem Inv.Rz(h:Inv G n D E a w){d:Option Nat}(hd:bp n d=true){cs:List AV}{c:Array Value}{t:TypeId}{av:AV}{v:Value}(hav:av=.ref w.heap.size 0/\v=.pointer (some ⟨w.heap.size,0,none⟩)\/∃l m,av=.arr w.heap.size 0 l m/\v=.slice (some ⟨w.heap.size,0,none⟩) l m)
 (hcs:∀(G':Gh)(w':World)(o:Nat->cS),ax G w G' w'->du G' w' o cs c)(hfl:Fl cs):
 ∃G',Inv G' n D ({E with s:=E.s.set w.heap.size (.cells cs)}.put d av) (a.put d v) (w.alloc (.cells c t))/\ax G w G' (w.alloc (.cells c t)):=h.abE hd hav hcs (hfl.tag t)
theorem Km(h:Inv G n D E a w){op:Op}{ty:TypeId}{z:List AV}{d:Option Nat}{K:St->Prop}(hd:bp n d=true):
 (ao P op ty (.aq z)=true->jf P (.aq z) d E K->ri P G n D w a op ty d K)/\(ao P op ty (.gC z)=true->jf P (.gC z) d E K->ri P G n D w a op ty d K):=by
 have run:∀t,qb P t z=true->∃c:Array Value,(∀(dst:Option Tmp)(pos:String)(after:Array Edge)(g:Option (Nat×Bool)),(execOp a.eval ⟨dst,.alloc t,ty,pos,after,g⟩).run P w=.ok (.value (.pointer (some ⟨w.heap.size,0,none⟩))) (w.alloc (.cells c t)))/\
  (∀(G':Gh)(w':World)(o:Nat->cS),du G' w' o z c)/\Fl z:=by
  intro t hz
  obtain⟨i,v,h1,h2,_,h4,h5⟩:=xu hz
  refine⟨v.cells,fun _ _ _ _=>?_,fun G' w' o=>LG (h4 w' G'.R) h5,(h4 w G.R).2.2⟩
  simp[execOp,Instr.alloc,zeroValue,typeInfo,h1,h2,newVar,newRow]
 constructor
 ·intro hc hw pos after g next Q hn
  cases op<;>first|(simp[ao]at hc;done)|skip
  rename_i t
  obtain⟨c,hr,hcs,hfl⟩:=run t hc
  obtain⟨G',h1,h2⟩:=h.ahT hd hw.1 (c:=c) (t:=t) (fun G' w' o _=>hcs G' w' o) hfl
  exact aX (hr d pos after g) (hn G' _ _ _ h1 h2 hw.2)
 ·intro hc hw pos after g next Q hn
  cases op<;>first|(simp[ao]at hc;done)|skip
  rename_i t
  obtain⟨c,hr,hcs,hfl⟩:=run t hc
  obtain⟨G',h1,h2⟩:=h.Rz hd (c:=c) (t:=t) (.inl ⟨rfl,rfl⟩) (fun G' w' o _=>hcs G' w' o) hfl
  exact aX (hr d pos after g) (hn G' _ _ _ h1 h2 (hw w.heap.size (h.store.get_none h.aS)))
theorem SK(h:Inv G n D E a w){op:Op}{ty:TypeId}{m:Nat}{x:IX}{d:Option Nat}{K:St->Prop}(hd:bp n d=true):
 (ao P op ty (.dc m x)=true->jf P (.dc m x) d E K->ri P G n D w a op ty d K)/\(ao P op ty (.oz m x)=true->jf P (.oz m x) d E K->ri P G n D w a op ty d K):=by
 have run:∀t y,∀(dst:Option Tmp)(pos:String)(after:Array Edge)(g:Option (Nat×Bool)),(execOp a.eval ⟨dst,.box t y,ty,pos,after,g⟩).run P w=.ok (.value (.pointer (some ⟨w.heap.size,0,none⟩))) (w.alloc (.cells (a.eval y).cells t)):=by
  intro t y _ _ _ _
  simp[execOp,Instr.box,newVar,newRow]
 have cells:∀y,bJ y x=true->dt (E.x x)=true->(∀(G':Gh)(w':World)(o:Nat->cS),ax G w G' w'->du G' w' o (views (cellsOf (E.x x))) (a.eval y).cells)/\Fl (views (cellsOf (E.x x))):=by
  intro y hy hi
  have hvr:VR w G.R (E.x x) (a.eval y):=by
   have:=XR.aN h hy
   generalize E.x x=av at hi this
   cases av<;>first|exact this|(simp[dt]at hi)
  exact⟨fun G' w' o hp=>nY ((gM hi hvr).mono fun _ _ hv=>hp.vr h.aS hv),(gM hi hvr).2.2.views⟩
 have Vt:∀y,bJ y x=true->dt (xg true E x)=true->(∀(G':Gh)(w':World)(o:Nat->cS),ax G w G' w'->du G' w' o (views (cellsOf (xg true E x))) (a.eval y).cells)/\Fl (views (cellsOf (xg true E x))):=by
  intro y hy hi
  have hvr:VR w G.R (xg true E x) (a.eval y):=(BR.aN h hy).vr hi
  exact⟨fun G' w' o hp=>nY ((gM hi hvr).mono fun _ _ hv=>hp.vr h.aS hv),(gM hi hvr).2.2.views⟩
 constructor
 ·intro hc hw pos after g next Q hn
  cases op<;>first|(simp[ao]at hc;done)|skip
  rename_i t y
  simp only[ao,Bool.and_eq_true]at hc
  obtain⟨hf,hi,_,hk⟩:=hw
  obtain⟨G',h1,h2⟩:=h.ahT hd hf (t:=t) (cells y hc.2 hi).1 (cells y hc.2 hi).2
  exact aX (run t y d pos after g) (hn G' _ _ _ h1 h2 hk)
 ·intro hc hw pos after g next Q hn
  cases op<;>first|(simp[ao]at hc;done)|skip
  rename_i t y
  simp only[ao,Bool.and_eq_true]at hc
  obtain⟨hi,_,hk⟩:=hw
  obtain⟨G',h1,h2⟩:=h.Rz hd (t:=t) (.inl ⟨rfl,rfl⟩) (Vt y hc.2 hi).1 (Vt y hc.2 hi).2
  exact aX (run t y d pos after g) (hn G' _ _ _ h1 h2 (hk w.heap.size (h.store.get_none h.aS)))
end
end Go.AB
end
