/- A part of the proof: Ab9, Ab10. -/
import Derived.Test.YtkeagffgdajggaaGreatSo3
import Derived.Laws.BytesArg
import Derived.Laws.StructEq
set_option linter.unusedSimpArgs false
set_option linter.unusedVariables false
section
namespace Go.AB
open Go
section
variable{P:Program}{G:Gh}{n:Nat}{D:List Deferred}{σ:St}{a:Act}{w:World}
theorem MF{k:Int}{m sz len:Nat}(h0:0≤k)(h1:k<m)(hl:len=m*sz):k.toNat*sz+sz≤len:=by
 have:k.toNat+1≤m:=by omega
 calc k.toNat*sz+sz=(k.toNat+1)*sz:=by rw[Nat.add_mul,Nat.one_mul]
  _≤m*sz:=Nat.mul_le_mul_right _ this
  _=len:=hl.symm
theorem Fz(h:Inv G n D σ a w){op:Op}{ty:TypeId}{z:List AV}{x i:IX}(hc:au P op ty (.indexAddr z x i)=true){av:AV}(hv:eN (pv (.indexAddr z x i) (xg true σ) σ) av):
 ∃v,runs P a op ty w v∧NR G w σ a av v:=by
 cases op<;>first|(simp[au]at hc;done)|skip
 rename_i t y j
 simp only[au,Bool.and_eq_true]at hc
 obtain⟨⟨hy,hj⟩,hc⟩:=hc
 split at hc<;>try(cases hc;done)
 rename_i e ht
 have ht:=cC ht
 have hb:=BR.aJ h hy
 have hbi:=BR.aJ h hj
 have hv':eN (jk z (xg true σ x) (xg true σ i)) av:=hv
 generalize xg true σ x=xv at hb hv'
 generalize xg true σ i=iv at hbi hv'
 have hrun:∀b o l c k q,a.eval y=.slice (some ⟨b,o,none⟩) l c→a.eval j=.int k q→0≤q→q<l→runs P a (.indexAddr t y j) ty w (.pointer (some ⟨b,o+q.toNat*z.length,none⟩)):=by
  intro b o l c k q e1 e2 h0 h1 _ _ _ _
  simp[execOp,e1,e2,Instr.indexAt,asIntOf,run_underlying ht,h0,h1,run_sizeOf hc,add_eq]
 unfold jk at hv'
 split at hv'
 ·rename_i ow s m cs k q
  cases hs:s==z.length with
  |false=>rw[hs]at hv';exact hv'.no.elim
  |true=>
   rw[hs]at hv'
   have hs:=beq_iff_eq.1 hs
   obtain⟨rfl,h0,h1⟩:=hv'.prt
   have e2:a.eval j=.int k q:=VR.bO hbi
   rcases VR.fR hb with⟨_,rfl,_⟩|⟨b,o,cap,e1,hl,hR,hcap,hat⟩
   ·simp at h1;omega
   ·rw[hs]at hl
    have hfit:=MF h0 h1 hl
    have hlen:(views (AB.sub cs (q.toNat*z.length) z.length)).length=z.length:=by simp only[AB.views,List.length_map,im hfit]
    have hpad:pad z (views (AB.sub cs (q.toNat*z.length) z.length))=views (AB.sub cs (q.toNat*z.length) z.length):=by
     unfold pad
     rw[hlen,beq_self_eq_true];rfl
    have hat':=(hat.sub (q.toNat*z.length) z.length).views
    obtain⟨u,u1,u2,u3⟩:=hat'
    rw[hpad]
    refine⟨_,hrun b o m cap k q e1 e2 h0 h1,NR.mk rfl (.sp _ b (o+q.toNat*z.length) u u3 ?_ u1 u2) rfl⟩
    rw[hlen]
    omega
 ·rename_i b o m c k q
  obtain⟨rfl,h0,h1⟩:=hv'.prt
  rcases VR.cD hb with e0|⟨h2,_,_⟩
  ·exact⟨_,hrun b o m c k q e0 (VR.bO hbi) h0 h1,NR.mk rfl (.ref _ _) rfl⟩
  ·omega
 ·exact hv'.no.elim
theorem Da(h:Inv G n D σ a w){op:Op}{ty:TypeId}{sz len:Nat}{x i:IX}(hc:au P op ty (.jh sz len x i)=true){av:AV}(hv:eN (pv (.jh sz len x i) (xg true σ) σ) av):
 ∃v,runs P a op ty w v∧NR G w σ a av v:=by
 cases op<;>first|(simp[au]at hc;done)|skip
 rename_i t y j
 simp only[au,Bool.and_eq_true]at hc
 obtain⟨⟨hy,hj⟩,hc⟩:=hc
 split at hc<;>try(cases hc;done)
 rename_i l e ht
 simp only[Bool.and_eq_true,beq_iff_eq]at hc
 obtain⟨rfl,hs⟩:=hc
 have hb:=BR.aJ h hy
 have hbi:=BR.aJ h hj
 have hv':eN (fE sz l x (xg true σ x) (xg true σ i)) av:=hv
 generalize hxv:xg true σ x=xv at hb hv'
 generalize xg true σ i=iv at hbi hv'
 have hrun:∀b o k q,a.eval y=.pointer (some ⟨b,o,none⟩)→a.eval j=.int k q→0≤q→q<l→runs P a (.indexAddr t y j) ty w (.pointer (some ⟨b,o+q.toNat*sz,none⟩)):=by
  intro b o k q e1 e2 h0 h1 _ _ _ _
  simp[execOp,e1,e2,Instr.indexAt,asIntOf,run_underlying ht,Instr.sureAddr,h0,h1,run_sizeOf hs,add_eq]
 unfold fE at hv'
 split at hv'
 ·rename_i d o k q
  obtain⟨rfl,h0,h1⟩:=hv'.prt
  obtain⟨b,e1,h2⟩:=hb
  exact⟨_,hrun b o k q e1 (VR.bO hbi) h0 h1,b,rfl,h2⟩
 ·rename_i cs k q
  by_cases hfit:l*sz≤cs.length
  ·rw[decide_eq_true hfit]at hv'
   obtain⟨rfl,h0,h1⟩:=hv'.prt
   obtain⟨b,o,e,hR,u,u1,u2,u3⟩:=VR.IP hb
   have hf:=MF (sz:=sz) h0 h1 rfl
   refine⟨_,hrun b o k q e (VR.bO hbi) h0 h1,NR.mk rfl (.sp _ b (o+q.toNat*sz) (fun j=>u (q.toNat*sz+j)) (u3.drop _) (by simp;omega) (fun j c hj=>?_) (fun j c hj=>?_)) rfl⟩
   ·rw[List.getElem?_drop]at hj
    rw[Nat.add_assoc];exact u1 _ c hj
   ·rw[List.getElem?_drop]at hj
    exact u2 _ c hj
  ·rw[decide_eq_false hfit]at hv';exact hv'.no.elim
 ·rename_i b o k q
  obtain⟨rfl,h0,h1⟩:=hv'.prt
  exact⟨_,hrun b o k q (VR.gi hb) (VR.bO hbi) h0 h1,NR.mk rfl (.ref _ _) rfl⟩
 ·rename_i cs k q
  unfold Lg at hv'
  split at hv'
  ·rename_i j'
   obtain⟨rfl,h0,h1⟩:=hv'.prt
   obtain⟨i',b,c,t',e1,hl,htm,hvv,_⟩:=hb
   injection e1 with e1
   subst e1
   exact⟨_,hrun b 0 k q hvv (VR.bO hbi) h0 h1,b,by rw[Nat.zero_add],fun _ _=>by rw[htm,hvv]⟩
  ·exact hv'.no.elim
 ·exact hv'.no.elim
theorem iD{lo:Option Operand}{li:Option IX}(h:Inv G n D σ a w)(hc:CF lo li=true){d l:Int}(hl:CB (xg true σ) li d=some l):
 (lo=none∧l=d)∨(∃k o,lo=some o∧a.eval o=.int k l):=by
 unfold CF at hc
 split at hc
 ·injection hl with hl;exact .inl ⟨rfl,hl.symm⟩
 ·rename_i o x
  have hb:=BR.aJ h hc
  unfold CB at hl
  simp only at hl
  split at hl
  ·rename_i k q hq
   injection hl with hl;subst hl
   rw[hq]at hb
   exact .inr ⟨k,o,rfl,VR.bO hb⟩
  ·cases hl
 ·cases hc
theorem gM(CM:Bool)(len cap:Nat){lo hi:Option Value}{l hh:Int}(hlo:(lo=none∧l=0)∨∃k,lo=some (.int k l))(hhi:(hi=none∧hh=len)∨∃k,hi=some (.int k hh))
 (h0:0≤l)(h1:l≤hh)(h2:hh≤cap):(Instr.sliceBounds CM len cap lo hi none).run P w=.ok (l.toNat,hh.toNat,cap) w:=by
 have hb:∀(k:IntKind)(q:Int)(y:Nat)(c:BoundsCode),0≤q→q≤y→(Instr.sliceBound (.int k q) y c).run P w=.ok q.toNat w:=by
  intro k q y c hq hy
  simp[Instr.sliceBound,asIntOf,hq,hy]
 rcases hhi with⟨rfl,rfl⟩|⟨k,rfl⟩
 ·rcases hlo with⟨rfl,rfl⟩|⟨k',rfl⟩
  ·simp[Instr.sliceBounds]
  ·simp[Instr.sliceBounds,hb k' l len _ h0 h1]
 ·have:=hb k hh cap (if CM then .sliceAcap else .sliceAlen) (by omega) h2
  rcases hlo with⟨rfl,rfl⟩|⟨k',rfl⟩
  ·simp[Instr.sliceBounds,this]
  ·have h3:=hb k' l hh.toNat .sliceB h0 (by omega)
   simp[Instr.sliceBounds,this,h3]
theorem yf(CM:Bool)(len cap:Nat){lo:Option Value}{l hh m:Int}{kh km:IntKind}(hlo:(lo=none∧l=0)∨∃k,lo=some (.int k l))
 (h0:0≤l)(h1:l≤hh)(h2:hh≤m)(h3:m≤cap):(Instr.sliceBounds CM len cap lo (some (.int kh hh)) (some (.int km m))).run P w=.ok (l.toNat,hh.toNat,m.toNat) w:=by
 have hb:∀(k:IntKind)(q:Int)(y:Nat)(c:BoundsCode),0≤q→q≤y→(Instr.sliceBound (.int k q) y c).run P w=.ok q.toNat w:=by
  intro k q y c hq hy
  simp[Instr.sliceBound,asIntOf,hq,hy]
 have e1:=hb km m cap (if CM then .slice3Acap else .slice3Alen) (by omega) h3
 have e2:=hb kh hh m.toNat .slice3B (by omega) (by omega)
 rcases hlo with⟨rfl,rfl⟩|⟨k',rfl⟩
 ·simp[Instr.sliceBounds,e1,e2]
 ·have e3:=hb k' l hh.toNat .slice3C h0 (by omega)
  simp[Instr.sliceBounds,e1,e2,e3]
theorem ks{lo:Option Operand}{l d:Int}(h:(lo=none∧l=d)∨(∃k o,lo=some o∧a.eval o=.int k l)):(lo.map a.eval=none∧l=d)∨∃k,lo.map a.eval=some (.int k l):=by
 rcases h with⟨rfl,h⟩|⟨k,o,rfl,h⟩
 ·exact .inl ⟨rfl,h⟩
 ·exact .inr ⟨k,by simp[h]⟩
theorem Nz(h:Inv G n D σ a w){op:Op}{ty:TypeId}{sz:Nat}{x:IX}{lo hi mx:Option IX}(hc:au P op ty (.slice sz x lo hi mx)=true){av:AV}(hv:eN (pv (.slice sz x lo hi mx) (xg true σ) σ) av):
 ∃v,runs P a op ty w v∧NR G w σ a av v:=by
 cases op<;>first|(simp[au]at hc;done)|skip
 rename_i t y l' h' m'
 simp only[au,Bool.and_eq_true]at hc
 obtain⟨⟨⟨⟨hy,hlo⟩,hhi⟩,hmx⟩,hc⟩:=hc
 split at hc<;>try(cases hc;done)
 rename_i e ht
 have ht:=cC ht
 cases mx with
 |some m=>
  have hb:=BR.aJ h hy
  have hv':eN (qc sz (xg true σ) lo hi m (xg true σ x)) av:=hv
  generalize xg true σ x=xv at hb hv'
  unfold qc at hv'
  split at hv'
  ·rename_i b o len cap
   unfold yi at hv'
   split at hv'
   ·rename_i l hh mm hl hhh hmm
    obtain⟨rfl,h0,h1,h2,h3⟩:=hv'.prt
    have bl:=ks (iD h hlo hl)
    cases hi with
    |none=>cases hhh
    |some hi'=>
    have bh:=iD h hhi (d:=0) hhh
    have bm:=iD h hmx (d:=0) hmm
    rcases bh with⟨hn,_⟩|⟨kh,oh,eh1,eh2⟩
    ·subst hn;unfold CF at hhi;cases hhi
    rcases bm with⟨hn,_⟩|⟨km,om,em1,em2⟩
    ·subst hn;unfold CF at hmx;cases hmx
    subst eh1;subst em1
    have hrun:=yf (P:=P) (w:=w) (kh:=kh) (km:=km) true len cap bl h0 h1 h2 h3
    have e3:hh.toNat -l.toNat=(hh -l).toNat:=by omega
    rcases VR.cD hb with e1|⟨rfl,rfl,e1⟩
    ·by_cases hcl:mm.toNat=l.toNat
     ·have e5:iK o mm.toNat l.toNat sz=o:=by unfold iK;rw[hcl,beq_self_eq_true];rfl
      rw[e5]
      refine⟨.slice (some ⟨b,o,none⟩) (hh -l).toNat (mm.toNat -l.toNat),fun _ _ _ _=>?_,NR.mk rfl (.arr _ _ _ _) rfl⟩
      simp[execOp,e1,Instr.sliceAt,run_underlying ht,Instr.slice,eh2,em2,hrun,run_sizeOf hc,hcl,e3]
     ·have e5:iK o mm.toNat l.toNat sz=o+l.toNat*sz:=by
       unfold iK
       rw[show(mm.toNat==l.toNat)=false by simpa using hcl];rfl
      rw[e5]
      refine⟨.slice (some ⟨b,o+l.toNat*sz,none⟩) (hh -l).toNat (mm.toNat -l.toNat),fun _ _ _ _=>?_,NR.mk rfl (.arr _ _ _ _) rfl⟩
      simp[execOp,e1,Instr.sliceAt,run_underlying ht,Instr.slice,eh2,em2,hrun,run_sizeOf hc,hcl,e3,add_eq]
    ·have h6:mm=0:=by omega
     have h4:hh=0:=by omega
     have h5:l=0:=by omega
     subst h6;subst h4;subst h5
     refine⟨.slice none 0 0,fun _ _ _ _=>?_,NR.mk rfl (by exact .Ex _ _) rfl⟩
     simp[execOp,e1,Instr.sliceAt,run_underlying ht,Instr.slice,eh2,em2,hrun,run_sizeOf hc]
   ·exact hv'.no.elim
  ·exact hv'.no.elim
 |none=>
  have hm':m'=none:=by
   cases m' with
   |none=>rfl
   |some _=>simp[CF]at hmx
  subst hm'
  have hb:=BR.aJ h hy
  have hv':eN (sP sz (xg true σ) lo hi (xg true σ x)) av:=hv
  generalize xg true σ x=xv at hb hv'
  unfold sP at hv'
  split at hv'
  ·rename_i ow s m cs
   cases hs:s==sz with
   |false=>rw[hs]at hv';exact hv'.no.elim
   |true=>
    rw[hs]at hv'
    obtain rfl:=beq_iff_eq.1 hs
    have hv'':eN (Aq s m cs (CB (xg true σ) lo 0) (CB (xg true σ) hi m)) av:=hv'
    unfold Aq at hv''
    split at hv''
    ·rename_i l hh hl hhh
     cases h1s:Nat.ble 1 s with
     |false=>rw[h1s]at hv'';exact hv''.no.elim
     |true=>
     rw[h1s]at hv''
     have hs1:1≤s:=Nat.le_of_ble_eq_true h1s
     obtain⟨rfl,h0,h1,h2⟩:=hv''.prt
     have bl:=ks (iD h hlo hl)
     have bh:=ks (iD h hhi hhh)
     rcases VR.fR hb with⟨e1,rfl,rfl⟩|⟨b,o,cap,e1,hlen,hR,hcap,hat⟩
     ·have hl0:l=0:=by omega
      have hh0:hh=0:=by omega
      subst hl0;subst hh0
      have hsub:AB.sub ([]:List AV) ((0:Int).toNat*s) ((0 -0:Int).toNat*s)=[]:=by simp[AB.sub]
      rcases e1 with e1|⟨_,ad,cap,e1⟩
      ·refine⟨.slice none 0 0,fun _ _ _ _=>?_,NR.mk rfl ?_ rfl⟩
       ·have:=gM (P:=P) (w:=w) true 0 0 bl bh (by omega) (by omega) (by omega)
        simp[execOp,e1,Instr.sliceAt,run_underlying ht,Instr.slice,this,run_sizeOf hc]
       ·rw[hsub]
        show VR _ _ (.sl false s (0/s) []) _
        rw[Nat.zero_div];exact .slnil _ _
      ·refine⟨.slice (some (if cap=0 then ad else ad.add 0)) 0 cap,fun _ _ _ _=>?_,NR.mk rfl ?_ rfl⟩
       ·have:=gM (P:=P) (w:=w) true 0 cap bl bh (by omega) (by omega) (by omega)
        by_cases hc0:cap=0
        ·subst hc0
         simp[execOp,e1,Instr.sliceAt,run_underlying ht,Instr.slice,this,run_sizeOf hc]
        ·simp[execOp,e1,Instr.sliceAt,run_underlying ht,Instr.slice,this,run_sizeOf hc,hc0]
       ·rw[hsub]
        show VR _ _ (.sl false s (0/s) []) _
        rw[Nat.zero_div];exact .sle _ _ _
     ·have hrun:=gM (P:=P) (w:=w) true m cap bl bh h0 h1 (by omega)
      have hfit:l.toNat*s+(hh -l).toNat*s≤cs.length:=by
       rw[hlen,←Nat.add_mul]
       exact Nat.mul_le_mul_right _ (by omega)
      have hdiv:(AB.sub cs (l.toNat*s) ((hh -l).toNat*s)).length/s=(hh -l).toNat:=by rw[im hfit];exact Nat.mul_div_cancel _ hs1
      rw[hdiv]
      by_cases hcl:cap=l.toNat
      ·subst hcl
       have hz:(hh -l).toNat=0:=by omega
       refine⟨.slice (some ⟨b,o,none⟩) (hh -l).toNat (l.toNat -l.toNat),fun _ _ _ _=>?_,NR.mk rfl ?_ rfl⟩
       ·have e3:hh.toNat -l.toNat=(hh -l).toNat:=by omega
        simp[execOp,e1,Instr.sliceAt,run_underlying ht,Instr.slice,hrun,run_sizeOf hc,e3]
       ·rw[hz]
        have:AB.sub cs (l.toNat*s) (0*s)=[]:=by simp[AB.sub]
        rw[this]
        exact .sl false s 0 [] b o _ (fun _=>undef) Fl.nil (by simp) (by simp;omega) (Nat.zero_le _) (fun j c hj=>by simp at hj) (fun j c hj=>by simp at hj)
      ·refine⟨.slice (some ⟨b,o+l.toNat*s,none⟩) (hh -l).toNat (cap -l.toNat),fun _ _ _ _=>?_,NR.mk rfl ?_ rfl⟩
       ·have e3:hh.toNat -l.toNat=(hh -l).toNat:=by omega
        simp[execOp,e1,Instr.sliceAt,run_underlying ht,Instr.slice,hrun,run_sizeOf hc,hcl,e3,add_eq]
       ·obtain⟨u,u1,u2,u3⟩:=hat.sub (l.toNat*s) ((hh -l).toNat*s)
        exact .sl false s _ _ b _ _ u u3 (im hfit) (by rw[im hfit];omega) (by omega) u1 u2
    ·exact hv''.no.elim
  ·rename_i b o m cap
   have hv'':eN (xa sz b o cap (CB (xg true σ) lo 0) (CB (xg true σ) hi m)) av:=hv'
   unfold xa at hv''
   split at hv''
   ·rename_i l hh hl hhh
    obtain⟨rfl,h0,h1,h2⟩:=hv''.prt
    have bl:=ks (iD h hlo hl)
    have bh:=ks (iD h hhi hhh)
    have hrun:=gM (P:=P) (w:=w) true m cap bl bh h0 h1 h2
    have e3:hh.toNat -l.toNat=(hh -l).toNat:=by omega
    rcases VR.cD hb with e1|⟨rfl,rfl,e1⟩
    ·by_cases hcl:cap=l.toNat
     ·have e5:iK o cap l.toNat sz=o:=by unfold iK;rw[hcl,beq_self_eq_true];rfl
      rw[e5]
      refine⟨.slice (some ⟨b,o,none⟩) (hh -l).toNat (cap -l.toNat),fun _ _ _ _=>?_,NR.mk rfl (.arr _ _ _ _) rfl⟩
      simp[execOp,e1,Instr.sliceAt,run_underlying ht,Instr.slice,hrun,run_sizeOf hc,←hcl,e3]
      simp[hcl,←e3]
     ·have e5:iK o cap l.toNat sz=o+l.toNat*sz:=by
       unfold iK
       rw[show(cap==l.toNat)=false by simpa using hcl];rfl
      rw[e5]
      refine⟨.slice (some ⟨b,o+l.toNat*sz,none⟩) (hh -l).toNat (cap -l.toNat),fun _ _ _ _=>?_,NR.mk rfl (.arr _ _ _ _) rfl⟩
      simp[execOp,e1,Instr.sliceAt,run_underlying ht,Instr.slice,hrun,run_sizeOf hc,hcl,e3,add_eq]
    ·have h3:l=0:=by omega
     have h4:hh=0:=by omega
     subst h3;subst h4
     refine⟨.slice none 0 0,fun _ _ _ _=>?_,NR.mk rfl (by exact .Ex _ _) rfl⟩
     simp[execOp,e1,Instr.sliceAt,run_underlying ht,Instr.slice,hrun,run_sizeOf hc]
   ·exact hv''.no.elim
  ·exact hv'.no.elim
theorem Lw(h:Inv G n D σ a w){op:Op}{ty:TypeId}{x:IX}{lo hi:Option IX}(hc:au P op ty (.jq x lo hi)=true){av:AV}(hv:eN (pv (.jq x lo hi) (xg true σ) σ) av):
 ∃v,runs P a op ty w v∧NR G w σ a av v:=by
 cases op<;>first|(simp[au]at hc;done)|skip
 rename_i t y l' h' m'
 cases m' with
 |some _=>simp[au]at hc
 |none=>
  simp only[au,Bool.and_eq_true]at hc
  obtain⟨⟨⟨hy,hlo⟩,hhi⟩,ht⟩:=hc
  have ht:=xc ht
  have hb:=BR.aJ h hy
  have hv':eN (kC (xg true σ) lo hi (xg true σ x)) av:=hv
  generalize xg true σ x=xv at hb hv'
  unfold kC at hv'
  split at hv'
  ·rename_i s
   have hv'':eN (xb s (CB (xg true σ) lo 0) (CB (xg true σ) hi s.length)) av:=hv'
   unfold xb at hv''
   split at hv''
   ·rename_i l hh hl hhh
    obtain⟨rfl,h0,h1,h2⟩:=hv''.prt
    have bl:=ks (iD h hlo hl)
    have bh:=ks (iD h hhi hhh)
    have e1:=VR.eT hb
    have hrun:=gM (P:=P) (w:=w) false s.length s.length bl bh h0 h1 h2
    have hsz:(ByteArray.mk s.toArray).size=s.length:=by simp[ByteArray.size]
    refine⟨.string ⟨((s.drop l.toNat).take (hh -l).toNat).toArray⟩,fun _ _ _ _=>?_,NR.mk rfl (.str _) rfl⟩
    have hex:(ByteArray.mk s.toArray).extract l.toNat hh.toNat=⟨((s.drop l.toNat).take (hh -l).toNat).toArray⟩:=by
     apply ByteArray.ext
     rw[ByteArray.data_extract]
     apply Array.ext'
     simp only[Array.toList_extract,List.extract_eq_take_drop]
     congr 1
     omega
    simp[execOp,e1,Instr.sliceAt,run_underlying ht,Instr.slice,hsz,hrun,hex]
   ·exact hv''.no.elim
  ·exact hv'.no.elim
theorem mC{b:Builtin}{c:Call}{ys:List Operand}{ts:List TypeId}(h:KK b c=some (ys,ts)):c={callee:=.builtin b,args:=ys.toArray,argTypes:=ts.toArray}:=by
 unfold KK at h
 split at h
 ·rename_i b' hb
  split at h
  ·rename_i hbb
   injection h with h;injection h with h1 h2
   subst hbb;subst h1;subst h2
   cases c;simp at hb;simp[hb]
  ·cases h
 ·cases h
theorem PL{op:Op}{ty:TypeId}{m:Nat}(hc:au P op ty (.KD m)=true){av:AV}(hv:eN (pv (.KD m) (xg true σ) σ) av):
 ∃v,runs P a op ty w v∧NR G w σ a av v:=by
 cases op<;>first|(simp[au]at hc;done)|skip
 rename_i c
 have hav:av=.int .i64 m:=eN.c8 hv
 subst hav
 simp only[au]at hc
 split at hc<;>try(cases hc;done)
 rename_i y ys t ts hb
 have hce:=mC hb
 subst hce
 unfold L6 at hc
 split at hc<;>try(cases hc;done)
 rename_i m' e ht
 obtain rfl:=beq_iff_eq.1 hc
 exact⟨.int .i64 m,fun _ _ _ _=>by simp[execOp,resolve,invoke,builtin,Builtin.len_,run_underlying ht,goInt],NR.mk rfl (.int _ _) rfl⟩
theorem Te(h:Inv G n D σ a w){op:Op}{ty:TypeId}{cls:Nat}{x:IX}(hc:au P op ty (.len cls x)=true){av:AV}(hv:eN (pv (.len cls x) (xg true σ) σ) av):
 ∃v,runs P a op ty w v∧NR G w σ a av v:=by
 cases op<;>first|(simp[au]at hc;done)|skip
 rename_i c
 simp only[au]at hc
 split at hc<;>try(cases hc;done)
 rename_i y ys t ts hb
 have hce:=mC hb
 subst hce
 rw[Bool.and_eq_true]at hc
 obtain⟨hy,hlt⟩:=hc
 have hb:=BR.aJ h hy
 have hv':eN (zn σ.s cls (xg true σ x)) av:=hv
 generalize xg true σ x=xv at hb hv'
 have fin:∀(m:Nat),av=.int .i64 m→(∀w',w'=w→(Builtin.len_ (t::ts).toArray ty ((y::ys).toArray.map a.eval)).run P w'=.ok (.int .i64 m) w')→∃v,runs P a (.call {callee:=.builtin .len,args:=(y::ys).toArray,argTypes:=(t::ts).toArray}) ty w v∧NR G w σ a av v:=by
  intro m hm hr
  subst hm
  exact⟨.int .i64 m,fun _ _ _ _=>by simp[execOp,resolve,invoke,builtin]at hr⊢;simp[hr],NR.mk rfl (.int _ _) rfl⟩
 unfold Wn at hlt
 split at hlt<;>try(cases hlt;done)
 all_goals
  rename_i ht
  obtain rfl:=beq_iff_eq.1 hlt
  unfold zn at hv'
  split at hv'<;>rename_i hcl<;>try(cases hcl;done)
 ·rename_i ow s m cs
  refine fin m hv'.c8 fun w' _=>?_
  rcases VR.fR hb with⟨e0,rfl,_⟩|⟨b,o,cap,e1,_⟩
  ·obtain⟨_,_,e1⟩:=e0.ex
   simp[Builtin.len_,run_underlying ht,goInt,e1]
  ·simp[Builtin.len_,run_underlying ht,goInt,e1]
 ·rename_i b o m c
  refine fin m hv'.c8 fun w' _=>?_
  rcases VR.cD hb with e1|⟨rfl,_,e1⟩<;>simp[Builtin.len_,run_underlying ht,goInt,e1]
 ·exact hv'.no.elim
 ·rename_i s
  refine fin s.length hv'.c8 fun w' _=>?_
  have e1:=VR.eT hb
  have hsz:(ByteArray.mk s.toArray).size=s.length:=by simp[ByteArray.size]
  simp only[List.map_toArray,List.map_cons,e1]
  simp[Builtin.len_,run_underlying ht,goInt,hsz]
 ·exact hv'.no.elim
 ·refine fin 0 hv'.c8 fun w' _=>?_
  simp[Builtin.len_,run_underlying ht,goInt,VR.GL hb]
 ·rename_i b
  unfold I3 at hv'
  split at hv'
  ·rename_i es hs
   refine fin es.length hv'.c8 fun w' hw'=>?_
   subst hw'
   obtain⟨_,_,ents,clock,hh,hsz,_⟩:=h.store b _ hs
   have hg:(getObj b).run P w'=.ok (.map ents clock) w':=by simp[getObj,Sem.run,hh]
   simp[Builtin.len_,run_underlying ht,goInt,VR.IM hb,hg,hsz]
  ·exact hv'.no.elim
 ·exact hv'.no.elim
theorem Pg(mx:Bool)(k:IntKind)(h:Inv G n D σ a w):∀(xs:List IX)(ys:List Operand),fZ ys xs=true→∀(m r:Int),Hg mx m (xs.map (xg true σ))=some r→
 ((ys.map a.eval).foldlM (if mx then Builtin.max2 else Builtin.min2) (.int k m)).run P w=.ok (.int k r) w:=by
 intro xs
 induction xs with
 |nil=>
  intro ys hc m r hr
  cases ys with
  |nil=>simp[Hg]at hr;subst hr;rfl
  |cons _ _=>simp[fZ]at hc
 |cons x xs ih=>
  intro ys hc m r hr
  cases ys with
  |nil=>simp[fZ]at hc
  |cons y ys=>
   simp only[fZ,Bool.and_eq_true]at hc
   have hb:=BR.aJ h hc.1
   simp only[List.map_cons]at hr⊢
   generalize xg true σ x=xv at hb hr
   cases xv<;>simp only[Hg]at hr<;>try(cases hr;done)
   rename_i k' q
   have e:=VR.bO hb
   have:=ih ys hc.2 _ r hr
   rw[List.foldlM_cons]
   simp only[Sem.run_bind,e]
   cases mx with
   |true=>
    have:(Builtin.max2 (.int k m) (.int k' q)).run P w=.ok (.int k (max m q)) w:=by
     simp only[Builtin.max2,Sem.run_pure]
     congr 2
     omega
    simp_all
   |false=>
    have:(Builtin.min2 (.int k m) (.int k' q)).run P w=.ok (.int k (min m q)) w:=by
     simp only[Builtin.min2,Sem.run_pure]
     congr 2
     omega
    simp_all
theorem Jq(h:Inv G n D σ a w){op:Op}{ty:TypeId}{k:Nat}{x:IX}(hc:au P op ty (.extract x k)=true){av:AV}(hv:eN (pv (.extract x k) (xg true σ) σ) av):
 ∃v,runs P a op ty w v∧NR G w σ a av v:=by
 cases op<;>first|(simp[au]at hc;done)|skip
 rename_i y j
 simp only[au,Bool.and_eq_true,beq_iff_eq]at hc
 obtain⟨hy,rfl⟩:=hc
 have hb:=BR.aJ h hy
 have hv':eN (oF k (xg true σ x)) av:=hv
 generalize xg true σ x=xv at hb hv'
 unfold oF at hv'
 split at hv'
 ·rename_i vs
  obtain⟨us,e1,hl,hr⟩:=VR.J5 hb
  cases hk:vs[k]? with
  |none=>rw[hk]at hv';exact hv'.no.elim
  |some c=>
   rw[hk]at hv'
   obtain⟨rfl,hi⟩:=Ii hv'
   have hlt:k<us.size:=by rw[hl];exact(List.getElem?_eq_some_iff.1 hk).1
   have hu:=Array.getElem?_eq_getElem hlt
   exact⟨us[k],fun _ _ _ _=>by simp[execOp,e1,Instr.extract,hu],NR.mk hi (hr k c _ hk hu).view (iH _)⟩
 ·exact hv'.no.elim
end
end Go.AB
end
section
namespace Go.AB
open Go
theorem Gk{a:AV}{c:UInt8}(h:byteOf a=some c):a=.int .u8 c.toNat:=by
 unfold byteOf at h
 split at h
 ·rename_i n
  split at h
  ·rename_i hn
   injection h with h
   subst h
   rw[UInt8.toNat_ofNat']
   congr 1
   omega
  ·cases h
 ·cases h
theorem vH:∀{cs:List AV}{l:List UInt8},bytesOf cs=some l→cs=l.map fun c=>.int .u8 c.toNat
 |[],l,h=>by
  unfold bytesOf at h
  injection h with h
  subst h;rfl
 |a::r,l,h=>by
  unfold bytesOf at h
  cases ha:byteOf a with
  |none=>rw[ha]at h;cases h
  |some c=>
   cases hr:bytesOf r with
   |none=>rw[ha,hr]at h;cases h
   |some m=>
    rw[ha,hr]at h
    injection h with h
    subst h
    rw[Gk ha,vH hr];rfl
section
variable{P:Program}{G:Gh}{n:Nat}{D:List Deferred}{σ:St}{a:Act}{w:World}
theorem Ny(h:Inv G n D σ a w){op:Op}{ty:TypeId}{z:List AV}{m:Bool}{x:IX}(hc:au P op ty (.bW z m x)=true){av:AV}(hv:eN (pv (.bW z m x) (xg true σ) σ) av):
 ∃v,runs P a op ty w v∧NR G w σ a av v:=by
 have hc':au P op ty (.load z.length m x)=true:=by cases op<;>first|exact hc|(simp[au]at hc;done)
 refine FA h hc' ?_
 have hv':eN (DW z m σ.s (xg true σ x)) av:=hv
 show eN (iI m (rd σ (xg true σ x) z.length)) av
 generalize xg true σ x=xv at hv'
 cases xv<;>first|exact hv'.no.elim|skip
 rename_i b off
 have hv2:eN (G9 z m off (σ.s b)) av:=hv'
 show eN (iI m (tK z.length off (σ.s b))) av
 cases hs:σ.s b with
 |none=>rw[hs]at hv2;exact hv2.no.elim
 |some so=>
  cases so with
  |map es=>rw[hs]at hv2;exact hv2.no.elim
  |cells cs=>
   rw[hs]at hv2
   have hv3:eN (QG (off+z.length≤cs.length) (lF m (pad z (views (sub cs off z.length))))) av:=hv2
   unfold QG at hv3
   cases hi:c9 (lF m (pad z (views (sub cs off z.length))))with
   |false=>rw[hi]at hv3;exact hv3.no.elim
   |true=>
    rw[hi]at hv3
    obtain⟨rfl,hle⟩:=hv3.prt
    have hlen:(views (AB.sub cs off z.length)).length=z.length:=by simp only[AB.views,List.length_map,AB.sub,List.length_take,List.length_drop];omega
    have hpad:pad z (views (AB.sub cs off z.length))=views (AB.sub cs off z.length):=by unfold pad;rw[hlen,beq_self_eq_true];rfl
    rw[hpad]at hi⊢
    show eN (iI m (gZ z.length off cs)) _
    unfold gZ
    rw[decide_eq_true hle]
    show eN (QH (lF m (views (AB.sub cs off z.length)))) _
    unfold QH
    rw[hi]
    exact .inl rfl
theorem Nx(h:Inv G n D σ a w){op:Op}{ty:TypeId}{k:IntKind}{x:IX}(hc:au P op ty (.lN k x)=true){av:AV}(hv:eN (pv (.lN k x) (xg true σ) σ) av):
 ∃v,runs P a op ty w v∧NR G w σ a av v:=by
 have hc':au P op ty (.load 1 false x)=true:=by
  cases op<;>first|(simp[au]at hc;done)|skip
  simp only[au,Bool.and_eq_true]at hc⊢
  exact⟨⟨⟨hc.1.1,hc.1.2⟩,rfl⟩,hc.2⟩
 refine FA h hc' ?_
 have hv':eN (xV k σ.s (xg true σ x)) av:=hv
 show eN (iI false (rd σ (xg true σ x) 1)) av
 generalize xg true σ x=xv at hv'
 cases xv<;>first|exact hv'.no.elim|skip
 rename_i b off
 obtain⟨rfl,hcc⟩:=eN.prt (show eN (.prt (Ff k off (σ.s b)) (.int k (Fg off (σ.s b)))) av from hv')
 show eN (iI false (tK 1 off (σ.s b))) _
 cases hs:σ.s b with
 |none=>rw[hs]at hcc;exact hcc.elim
 |some so=>
  cases so with
  |map es=>rw[hs]at hcc;exact hcc.elim
  |cells cs=>
   rw[hs]at hcc
   obtain⟨m,hm⟩:=hcc
   have hlt:=(List.getElem?_eq_some_iff.1 hm).1
   show eN (iI false (gZ 1 off cs)) (.int k (intOf cs[off]?))
   rw[hm]
   unfold gZ
   rw[decide_eq_true (by omega)]
   have e:AB.sub cs off 1=[.int k m]:=by
    unfold AB.sub
    rw[List.drop_eq_getElem_cons hlt]
    have:=(List.getElem?_eq_some_iff.1 hm).2
    rw[this];rfl
   rw[e]
   exact .inl rfl
theorem ju{P:Program}(w:World)(src e:TypeId)(hs:P.underlying src=some (.slice e))(he:P.underlying e=some (.int .u8))(ad:Addr)(cap:Nat):
 ∀dst,P.underlying dst=some .string→(convert src dst (.slice (some ad) 0 cap)).run P w=.ok (.string ByteArray.empty) w:=by
 intro dst hd
 have hl:(loadCells ad 0).run P w=.ok (([]:List Int).map (Value.int .u8)).toArray w:=by
  have:=run_loadCells_list (P:=P) w ad [] (fun j v hj=>by simp at hj)
  simpa using this
 rw[run_convert_bytes_string w src dst e _ 0 cap hs he hd,run_bytesToString w _ 0 cap [] hl,foldl_push_bytes]
 simp[ByteArray.empty,ByteArray.emptyWithCapacity]
theorem Lq(h:Inv G n D σ a w){op:Op}{ty:TypeId}{x:IX}(hc:au P op ty (.fA x)=true){av:AV}(hv:eN (pv (.fA x) (xg true σ) σ) av):
 ∃v,runs P a op ty w v∧NR G w σ a av v:=by
 cases op<;>first|(simp[au]at hc;done)|skip
 rename_i s t y
 simp only[au,Bool.and_eq_true]at hc
 obtain⟨hy,hc⟩:=hc
 split at hc<;>try(cases hc;done)
 rename_i e hs ht
 split at hc<;>try(cases hc;done)
 rename_i he
 have hb:=BR.aJ h hy
 have hv':eN (pK (xg true σ x)) av:=hv
 generalize xg true σ x=xv at hb hv'
 unfold pK at hv'
 split at hv'<;>try(exact hv'.no.elim)
 rename_i ow sz m cs
 cases hsz:sz==1 with
 |false=>rw[hsz]at hv';exact hv'.no.elim
 |true=>
 rw[hsz]at hv'
 obtain rfl:=beq_iff_eq.1 hsz
 have hv2:eN (N3 (bytesOf cs)) av:=hv'
 cases hbs:bytesOf cs with
 |none=>rw[hbs]at hv2;exact hv2.no.elim
 |some l=>
 rw[hbs]at hv2
 obtain rfl:=hv2.c8
 obtain rfl:=vH hbs
 refine⟨.string ⟨l.toArray⟩,fun _ _ _ _=>?_,NR.mk rfl (.str l) rfl⟩
 rcases VR.fR hb with⟨e1,_,hl0⟩|⟨b,off,cap,e1,hlen,_,_,u,u1,u2,_⟩
 ·have:l=[]:=by simpa using hl0
  subst this
  rcases e1 with e1|⟨_,ad,cap,e1⟩
  ·have:=run_convert_bytes_nil (P:=P) w s e hs he 0 0 t ht
   simp[execOp,e1,this]
   rfl
  ·have:=ju (P:=P) w s e hs he ad cap t ht
   simp[execOp,e1,this]
   rfl
 ·have hm:l.length=m:=by simpa using hlen
  have:=run_convert_bytes_arg (P:=P) w s e hs he b off m cap (l.map fun c=>(c.toNat:Int)) (by simpa using hm) (fun i hi=>by
   have hil:i<l.length:=by omega
   have hc0:(l.map fun c=>AV.int .u8 c.toNat)[i]? =some (.int .u8 l[i].toNat):=by simp[hil]
   rw[u1 i _ hc0,VR.bO (u2 i _ hc0)]
   simp[List.getD_eq_getElem?_getD,hil]) t ht
  have hs2:strOfNums (l.map fun c=>(c.toNat:Int))=⟨l.toArray⟩:=by
   unfold strOfNums
   congr 2
   simp[Function.comp_def]
  rw[hs2]at this
  simp[execOp,e1,this]
end
theorem Ql(off:Nat):∀(l:List Value)(s:Nat)(cells:Array Value),
 ((l.zipIdx s).foldl (fun cs(x:Value×Nat)=>cs.setIfInBounds (off+x.2) x.1) cells).size=cells.size∧
 ∀k,((l.zipIdx s).foldl (fun cs(x:Value×Nat)=>cs.setIfInBounds (off+x.2) x.1) cells)[k]? =
  if off+s≤k∧k<off+s+l.length∧k<cells.size then l[k -(off+s)]? else cells[k]? :=by
 intro l
 induction l with
 |nil=>
  intro s cells
  refine⟨rfl,fun k=>?_⟩
  rw[if_neg (by simp;omega)];rfl
 |cons v l ih=>
  intro s cells
  rw[List.zipIdx_cons,List.foldl_cons]
  obtain⟨h1,h2⟩:=ih (s+1) (cells.setIfInBounds (off+s) v)
  refine⟨by rw[h1];simp,fun k=>?_⟩
  rw[h2 k]
  simp only[Array.size_setIfInBounds,List.length_cons]
  by_cases hk:k=off+s
  ·subst hk
   rw[if_neg (by omega)]
   by_cases hs:off+s<cells.size
   ·rw[if_pos ⟨by omega,by omega,hs⟩]
    simp[hs]
   ·rw[if_neg (by omega),Array.getElem?_eq_none (by simp;omega),Array.getElem?_eq_none (by omega)]
  ·by_cases hc:off+(s+1)≤k∧k<off+(s+1)+l.length∧k<cells.size
   ·rw[if_pos hc,if_pos (by omega)]
    have:k -(off+s)=(k -(off+(s+1)))+1:=by omega
    rw[this,List.getElem?_cons_succ]
   ·rw[if_neg hc,if_neg (by omega),Array.getElem?_setIfInBounds_ne (by omega)]
section
variable{P:Program}{G:Gh}{n:Nat}{D:List Deferred}{σ:St}{a:Act}{w:World}
def Row(w:World)(R:Nat→Nat)(cs:List AV)(vs:Array Value):Prop:=vs.size=cs.length∧(∀(j:Nat)(c:AV)(u:Value),cs[j]? =some c→vs[j]? =some u→VR w R c u)∧Fl cs
theorem gv{R:Nat→Nat}{av:AV}{v:Value}(hi:c9 av=true)(h:VR w R av v):Row w R (cellsOf av) v.cells:=by
 have key:(∃cs,av=.agg cs)∨(cellsOf av=[av]∧v.cells= #[v]∧oH av=true):=by cases h<;>first|exact .inl ⟨_,rfl⟩|exact .inr ⟨rfl,rfl,rfl⟩|(rename_i hb _;cases hb<;>exact .inr ⟨rfl,rfl,rfl⟩)|(rename_i hone;exact .inr ⟨rfl,by cases v<;>first|rfl|(cases hone;done),rfl⟩)|(simp[c9]at hi)
 rcases key with⟨cs,rfl⟩|⟨h1,h2,h3⟩
 ·obtain⟨vs,rfl,hl,hr,hf⟩:=VR.l6 h
  exact⟨hl,hr,hf⟩
 ·rw[h1,h2]
  refine⟨rfl,fun j c u hc hu=>?_,fun c hc=>?_⟩
  rotate_left
  ·rw[List.mem_singleton]at hc;subst hc;exact h3
  cases j with
  |succ j=>simp at hc
  |zero=>simp at hc hu;subst hc;subst hu;exact h
theorem Row.views{R:Nat→Nat}{cs:List AV}{vs:Array Value}(h:Row w R cs vs):Row w R (views cs) vs:=by
 refine⟨by simp[AB.views,h.1],fun j c u hc hu=>?_,h.2.2.views⟩
 rw[eb]at hc
 cases hj:cs[j]? with
 |none=>rw[hj]at hc;cases hc
 |some c'=>
  rw[hj]at hc;simp at hc
  rw[←hc];exact(h.2.1 j c' u hj hu).view
theorem my(cs news:List AV)(off k:Nat)(h:off+news.length≤cs.length):(setAt cs off news)[k]? =if off≤k∧k<off+news.length then news[k -off]? else cs[k]? :=by
 unfold setAt
 rw[List.append_assoc]
 by_cases h1:k<off
 ·rw[if_neg (by omega),List.getElem?_append_left (by simp;omega),List.getElem?_take,if_pos h1]
 ·rw[List.getElem?_append_right (by simp;omega)]
  have hl:(cs.take off).length=off:=by simp;omega
  rw[hl]
  by_cases h2:k<off+news.length
  ·rw[if_pos ⟨by omega,h2⟩,List.getElem?_append_left (by omega)]
  ·rw[if_neg (by omega),List.getElem?_append_right (by omega),List.getElem?_drop]
   congr 1
   omega
theorem mz(cs news:List AV)(off:Nat)(h:off+news.length≤cs.length):(setAt cs off news).length=cs.length:=by unfold setAt;simp;omega
theorem Fl.setAt{cs news:List AV}(h:Fl cs)(k:Fl news)(off:Nat):Fl (setAt cs off news):=by
 intro c hc
 unfold AB.setAt at hc
 rcases List.mem_append.1 hc with hc|hc
 ·rcases List.mem_append.1 hc with hc|hc
  ·exact h c (List.mem_of_mem_take hc)
  ·exact k c hc
 ·exact h c (List.mem_of_mem_drop hc)
theorem xn.setAt{t:Nat}{cs news:List AV}(h:xn t cs)(k:Fl news)(off:Nat):xn t (AB.setAt cs off news):=by
 intro c hc
 unfold AB.setAt at hc
 simp only[List.mem_append]at hc
 rcases hc with(hc|hc)|hc
 ·exact h c (List.mem_of_mem_take hc)
 ·exact .inl (k c hc)
 ·exact h c (List.mem_of_mem_drop hc)
theorem Row.setAt{R:Nat→Nat}{cs news:List AV}{vs us:Array Value}{off:Nat}(h:Row w R cs vs)(k:Row w R news us)(hfit:off+news.length≤cs.length):
 Row w R (setAt cs off news) (us.zipIdx.foldl (fun cs(x:Value×Nat)=>cs.setIfInBounds (off+x.2) x.1) vs):=by
 have e:us.zipIdx.foldl (fun cs(x:Value×Nat)=>cs.setIfInBounds (off+x.2) x.1) vs=(us.toList.zipIdx 0).foldl (fun cs(x:Value×Nat)=>cs.setIfInBounds (off+x.2) x.1) vs:=by rw[←Array.foldl_toList,Array.toList_zipIdx]
 rw[e]
 obtain⟨h1,h2⟩:=Ql off us.toList 0 vs
 refine⟨by rw[h1,mz _ _ _ hfit,h.1],fun j c u hc hu=>?_,Fl.setAt h.2.2 k.2.2 off⟩
 rw[h2 j]at hu
 rw[my _ _ _ _ hfit]at hc
 have hus:=k.1
 have hvs:=h.1
 by_cases hj:off≤j∧j<off+news.length
 ·rw[if_pos hj]at hc
  rw[if_pos (by simp;omega)]at hu
  exact k.2.1 (j -off) c u hc (by simpa using hu)
 ·rw[if_neg hj]at hc
  rw[if_neg (by simp;omega)]at hu
  exact h.2.1 j c u hc hu
theorem pM(h:Inv G n D σ a w){f:IX→AV}(hf:∀(o:Operand)(x:IX),bw o x=true→c9 (f x)=true→VR w G.R (f x) (a.eval o))(place:Nat→Option (Nat×Nat)):
 ∀(qs:List (Nat×Operand))(ps:List (Nat×Nat×IX))(cs ds:List AV)(vs:Array Value),
  (qs.length=ps.length∧∀(j:Nat)(q:Nat×Operand)(p:Nat×Nat×IX),qs[j]? =some q→ps[j]? =some p→place q.1=some (p.1,p.2.1)∧bw q.2 p.2.2=true)→
  Row w G.R cs vs→fill f cs ps=some ds→∃us,Instr.fill place vs (qs.map fun q=>(q.1,a.eval q.2))=some us∧Row w G.R ds us:=by
 intro qs
 induction qs with
 |nil=>
  intro ps cs ds vs hc hr hfl
  cases ps with
  |nil=>injection hfl with hfl;subst hfl;exact⟨vs,rfl,hr⟩
  |cons _ _=>simp at hc
 |cons q qs ih=>
  intro ps cs ds vs hc hr hfl
  cases ps with
  |nil=>simp at hc
  |cons p ps=>
   obtain⟨off,m,x⟩:=p
   obtain⟨hlen,hall⟩:=hc
   obtain⟨hp,hx⟩:=hall 0 q (off,m,x) rfl rfl
   simp only[fill]at hfl
   cases hcond:(c9 (f x)&&((views (cellsOf (f x))).length==m&&decide (off+m≤cs.length)))with
   |false=>rw[hcond]at hfl;cases hfl
   |true=>
    rw[hcond]at hfl
    simp only[Bool.and_eq_true,beq_iff_eq,decide_eq_true_eq]at hcond
    obtain⟨hi,hm,hfit⟩:=hcond
    have hrow:=(gv hi (hf q.2 x hx hi)).views
    have hsz:(a.eval q.2).cells.size=m:=by rw[hrow.1,hm]
    have hcs:off+(a.eval q.2).cells.size≤vs.size:=by rw[hsz,hr.1];exact hfit
    have hr':=hr.setAt hrow (off:=off) (by rw[hm];exact hfit)
    obtain⟨us,h1,h2⟩:=ih ps _ ds _ ⟨by simpa using hlen,fun j q' p' hq hp'=>hall (j+1) q' p' (by simpa using hq) (by simpa using hp')⟩ hr' hfl
    refine⟨us,?_,h2⟩
    simp only[List.map_cons,Instr.fill,hp]
    rw[if_neg (by simp[hsz];omega)]
    exact h1
theorem Jl{fs:Array Field}:∀(qs:List (Nat×Operand))(ps:List (Nat×Nat×IX)),ya P fs qs ps=true→
 qs.length=ps.length∧∀(j:Nat)(q:Nat×Operand)(p:Nat×Nat×IX),qs[j]? =some q→ps[j]? =some p→(∃f,fs[q.1]? =some f∧f.offset=p.1∧cy P f.type p.2.1=true)∧bw q.2 p.2.2=true:=by
 intro qs
 induction qs with
 |nil=>intro ps hp;cases ps with
  |nil=>exact⟨rfl,fun j q p hq=>by simp at hq⟩
  |cons _ _=>simp[ya]at hp
 |cons q qs ih=>intro ps hp;cases ps with
  |nil=>simp[ya]at hp
  |cons p ps=>
   obtain⟨off,m,x⟩:=p
   obtain⟨i,o⟩:=q
   simp only[ya,Bool.and_eq_true]at hp
   obtain⟨⟨h1,h2⟩,h3⟩:=hp
   obtain⟨h4,h5⟩:=ih ps h3
   refine⟨by simp[h4],fun j q' p' hq hp'=>?_⟩
   cases j with
   |zero=>
    simp at hq hp'
    subst hq;subst hp'
    split at h1
    ·rename_i f hf
     simp only[Bool.and_eq_true,beq_iff_eq]at h1
     exact⟨⟨f,hf,h1.1,h1.2⟩,h2⟩
    ·cases h1
   |succ j=>exact h5 j q' p' (by simpa using hq) (by simpa using hp')
theorem vg{sz:Nat}:∀(qs:List (Nat×Operand))(ps:List (Nat×Nat×IX)),sv sz qs ps=true→
 qs.length=ps.length∧∀(j:Nat)(q:Nat×Operand)(p:Nat×Nat×IX),qs[j]? =some q→ps[j]? =some p→(q.1*sz=p.1∧p.2.1=sz)∧bw q.2 p.2.2=true:=by
 intro qs
 induction qs with
 |nil=>intro ps hp;cases ps with
  |nil=>exact⟨rfl,fun j q p hq=>by simp at hq⟩
  |cons _ _=>simp[sv]at hp
 |cons q qs ih=>intro ps hp;cases ps with
  |nil=>simp[sv]at hp
  |cons p ps=>
   obtain⟨off,m,x⟩:=p
   obtain⟨i,o⟩:=q
   simp only[sv,Bool.and_eq_true,beq_iff_eq]at hp
   obtain⟨⟨⟨h0,h1⟩,h2⟩,h3⟩:=hp
   obtain⟨h4,h5⟩:=ih ps h3
   refine⟨by simp[h4],fun j q' p' hq hp'=>?_⟩
   cases j with
   |zero=>simp at hq hp';subst hq;subst hp';exact⟨⟨h0,h1⟩,h2⟩
   |succ j=>exact h5 j q' p' (by simpa using hq) (by simpa using hp')
theorem tE{t:TypeId}{z:List AV}(h:nf P t z=true):∃i v,P.info? t=some i∧i.zero=some v∧i.size=z.length∧(∀(w:World)(R:Nat→Nat),Row w R z v.cells)∧(∀(j:Nat)(c:AV)(u:Value),z[j]? =some c→v.cells[j]? =some u→cR u c=true):=by
 unfold nf at h
 split at h
 ·rename_i i hi
  split at h
  ·rename_i v hv
   simp only[Bool.and_eq_true,beq_iff_eq]at h
   obtain⟨h1,h2⟩:=Ac h.1
   exact⟨i,v,hi,hv,h.2,fun w R=>⟨by simpa using h1,fun j c u hc hu=>ru (h2 j c u hc (by simpa using hu)) w R,AM h.1⟩,fun j c u hc hu=>h2 j c u hc (by simpa using hu)⟩
  ·cases h
 ·cases h
theorem Hf(w:World):∀(fs:List Field),(∀f∈fs,(P.info? f.type).isSome=true)→
 (fs.mapM (m:=Sem) fun f=>Prod.mk f.offset<$>sizeOf f.type).run P w=.ok (fs.map fun f=>(f.offset,P.cellsOf f.type)) w:=by
 intro fs
 induction fs with
 |nil=>intro _;rfl
 |cons f fs ih=>
  intro h
  have hf:=h f (by simp)
  cases hi:P.info? f.type with
  |none=>rw[hi]at hf;cases hf
  |some i=>
   simp[List.mapM_cons,sizeOf,typeInfo,hi,Program.cellsOf]at ih⊢
   rw[ih fun f hf=>h f (by simp[hf])]
   simp
theorem Ns(h:Inv G n D σ a w){op:Op}{ty:TypeId}{z:List AV}{ps:List (Nat×Nat×IX)}(hc:au P op ty (.build z ps)=true){av:AV}(hv:eN (pv (.build z ps) (xg true σ) σ) av):
 ∃v,runs P a op ty w v∧NR G w σ a av v:=by
 cases op<;>first|(simp[au]at hc;done)|skip
 rename_i t qs
 simp only[au,Bool.and_eq_true]at hc
 obtain⟨hz,hc⟩:=hc
 obtain⟨ti,zv,hti,hzv,hsz,hrow,_⟩:=tE hz
 have hv':eN (AF (fill (xg true σ) z ps)) av:=hv
 cases hfl:fill (xg true σ) z ps with
 |none=>rw[hfl]at hv';exact hv'.no.elim
 |some ds=>
  rw[hfl]at hv'
  have hav:av=.agg ds:=hv'.c8
  subst hav
  have hzr:(zeroValue t).run P w=.ok zv w:=by simp[zeroValue,typeInfo,hti,hzv]
  have hf:∀(o:Operand)(x:IX),bw o x=true→c9 (xg true σ x)=true→VR w G.R (xg true σ x) (a.eval o):=fun o x hx hi=>(BR.aJ h hx).vr hi
  split at hc<;>try(cases hc;done)
  ·rename_i fs ht
   rw[Bool.and_eq_true]at hc
   obtain⟨hp,hall⟩:=hc
   obtain⟨hl,hp⟩:=Jl _ _ hp
   have hplaces:(fs.mapM (m:=Sem) fun f=>Prod.mk f.offset<$>sizeOf f.type).run P w=.ok (fs.map fun f=>(f.offset,P.cellsOf f.type)) w:=by
    have:=Hf (P:=P) w fs.toList (fun f hf=>by
     have:=Array.all_eq_true'.1 hall f (by simpa using hf)
     exact this)
    rw[Array.mapM_eq_mapM_toList]
    simp only[Sem.run_map,this,Result.andThen_ok]
    congr 1
    apply Array.ext'
    simp
   obtain⟨us,h1,h2⟩:=pM h hf ((fs.map fun f=>(f.offset,P.cellsOf f.type))[·]?) qs.toList ps z ds zv.cells
    ⟨hl,fun j q p hq hp'=>by
      obtain⟨⟨f,hf1,hf2,hf3⟩,hx⟩:=hp j q p hq hp'
      obtain⟨i,hi1,hi2⟩:=iE hf3
      refine⟨?_,hx⟩
      simp[hf1,hf2,Program.cellsOf,hi1,hi2]⟩ (hrow w G.R) hfl
   refine⟨.agg us,fun _ _ _ _=>?_,NR.mk rfl (.agg _ _ h2.2.2 h2.1 h2.2.1) rfl⟩
   simp only[Array.getElem?_map]at h1
   simp[execOp,Instr.build,hzr,run_underlying ht,hplaces,h1]
  ·rename_i m e ht
   split at hc<;>try(cases hc;done)
   rename_i ei hei
   obtain⟨hl,hp⟩:=vg _ _ hc
   obtain⟨us,h1,h2⟩:=pM h hf (fun i=>some (i*ei.size,ei.size)) qs.toList ps z ds zv.cells
    ⟨hl,fun j q p hq hp'=>by
      obtain⟨⟨e1,e2⟩,hx⟩:=hp j q p hq hp'
      exact⟨by rw[e1,e2],hx⟩⟩ (hrow w G.R) hfl
   refine⟨.agg us,fun _ _ _ _=>?_,NR.mk rfl (.agg _ _ h2.2.2 h2.1 h2.2.1) rfl⟩
   simp[execOp,Instr.build,hzr,run_underlying ht,sizeOf,typeInfo,hei,h1]
theorem rl(h:Inv G n D σ a w){f:IX→AV}(hf:∀(o:Operand)(x:IX),bw o x=true→c9 (f x)=true→VR w G.R (f x) (a.eval o)):
 ∀(os:List Operand)(xs:List IX)(as:List AV),fZ os xs=true→cc f xs=some as→as.length=os.length∧(∀c∈as,c9 c=true∧view c=c)∧
  ∀(j:Nat)(c:AV)(u:Value),as[j]? =some c→(os.map a.eval)[j]? =some u→VR w G.R c u:=by
 intro os
 induction os with
 |nil=>
  intro xs as hc hv
  cases xs with
  |nil=>injection hv with hv;subst hv;exact⟨rfl,by simp,fun j c u hc=>by simp at hc⟩
  |cons _ _=>simp[fZ]at hc
 |cons o os ih=>
  intro xs as hc hv
  cases xs with
  |nil=>simp[fZ]at hc
  |cons x xs=>
   simp only[fZ,Bool.and_eq_true]at hc
   simp only[cc]at hv
   cases hr:cc f xs with
   |none=>rw[hr]at hv;simp[KH]at hv
   |some as'=>
    rw[hr]at hv
    simp only[KH]at hv
    cases hi:c9 (f x)with
    |false=>rw[hi]at hv;cases hv
    |true=>
     rw[hi]at hv
     injection hv with hv;subst hv
     obtain⟨h1,h2,h3⟩:=ih xs as' hc.2 hr
     refine⟨by simp[h1],?_,fun j c u hcj hu=>?_⟩
     ·intro c hcm
      rcases List.mem_cons.1 hcm with rfl|hcm
      ·exact⟨jI hi,iH _⟩
      ·exact h2 c hcm
     ·cases j with
      |zero=>simp at hcj hu;subst hcj;subst hu;exact(hf o x hc.1 hi).view
      |succ j=>exact h3 j c u (by simpa using hcj) (by simpa using hu)
theorem Lr(h:Inv G n D σ a w){op:Op}{ty:TypeId}{fi:Nat}{fs cs:List IX}(hc:au P op ty (.lC fi fs cs)=true){av:AV}(hv:eN (pv (.lC fi fs cs) (xg true σ) σ) av):
 ∃v,runs P a op ty w v∧NR G w σ a av v:=by
 cases op<;>first|(simp[au]at hc;done)|skip
 rename_i g c d
 cases g<;>first|(simp[au]at hc;done)|skip
 rename_i g
 simp only[au,Bool.and_eq_true,beq_iff_eq]at hc
 obtain⟨⟨rfl,h1⟩,h2⟩:=hc
 have hf:∀(o:Operand)(x:IX),bw o x=true→c9 (xg true σ x)=true→VR w G.R (xg true σ x) (a.eval o):=fun o x hx hi=>(BR.aJ h hx).vr hi
 have hv':eN (tm fi (cc (xg true σ) fs) (cc (xg true σ) cs)) av:=hv
 unfold tm at hv'
 split at hv'
 ·rename_i x y hx hy
  have hav:=hv'.c8
  subst hav
  obtain⟨a1,_,a3⟩:=rl h hf _ _ _ h1 hx
  obtain⟨b1,_,b3⟩:=rl h hf _ _ _ h2 hy
  refine⟨.func (.func fi) (c.map a.eval) (d.map a.eval),fun _ _ _ _=>by simp[execOp,Instr.makeFunc],NR.mk rfl (.fn fi x y _ _ ?_ (fun j c' u hc' hu=>a3 j c' u hc' ?_) ?_ (fun j c' u hc' hu=>b3 j c' u hc' ?_)) rfl⟩
  ·simpa using a1.symm
  ·simpa using hu
  ·simpa using b1.symm
  ·simpa using hu
 ·exact hv'.no.elim
theorem Ls(h:Inv G n D σ a w){op:Op}{ty:TypeId}{mx:Bool}{xs:List IX}(hc:au P op ty (.hZ mx xs)=true){av:AV}(hv:eN (pv (.hZ mx xs) (xg true σ) σ) av):
 ∃v,runs P a op ty w v∧NR G w σ a av v:=by
 have key:∀(ys:List Operand),fZ ys xs=true→∃(k:IntKind)(m:Int)(y:Operand)(ys':List Operand),ys=y::ys'∧av=.int k m∧∃m0,a.eval y=.int k m0∧
  ((ys'.map a.eval).foldlM (if mx then Builtin.max2 else Builtin.min2) (.int k m0)).run P w=.ok (.int k m) w:=by
  intro ys hx
  have hv':eN (tu mx (xs.map (xg true σ))) av:=hv
  cases xs with
  |nil=>exact hv'.no.elim
  |cons x xs=>
   cases ys with
   |nil=>simp[fZ]at hx
   |cons y ys=>
    simp only[fZ,Bool.and_eq_true]at hx
    have hb:=BR.aJ h hx.1
    simp only[List.map_cons]at hv'
    generalize xg true σ x=xv at hb hv'
    cases xv<;>simp only[tu]at hv'<;>try(exact hv'.no.elim)
    rename_i k m0
    cases hr:Hg mx m0 (xs.map (xg true σ))with
    |none=>rw[hr]at hv';exact hv'.no.elim
    |some r=>
     rw[hr]at hv'
     have hav:av=.int k r:=hv'.c8
     exact⟨k,r,y,ys,rfl,hav,m0,VR.bO hb,Pg mx k h xs ys hx.2 m0 r hr⟩
 cases op<;>first|(cases mx<;>simp[au]at hc;done)|skip
 rename_i c
 cases mx with
 |true=>
  simp only[au]at hc
  split at hc<;>try(cases hc;done)
  rename_i ys ts hb
  have hce:=mC hb
  subst hce
  obtain⟨k,m,y,ys',rfl,rfl,m0,e0,hr⟩:=key ys hc
  refine⟨.int k m,fun _ _ _ _=>?_,NR.mk rfl (.int _ _) rfl⟩
  simp only[if_true]at hr
  simp[execOp,resolve,invoke,builtin,Builtin.max_,e0,hr]
 |false=>
  simp only[au]at hc
  split at hc<;>try(cases hc;done)
  rename_i ys ts hb
  have hce:=mC hb
  subst hce
  obtain⟨k,m,y,ys',rfl,rfl,m0,e0,hr⟩:=key ys hc
  refine⟨.int k m,fun _ _ _ _=>?_,NR.mk rfl (.int _ _) rfl⟩
  simp only[Bool.false_eq_true,if_false]at hr
  simp[execOp,resolve,invoke,builtin,Builtin.min_,e0,hr]
theorem S6(h:Inv G n D σ a w){op:Op}{ty:TypeId}{x:IX}(hc:au P op ty (.cap x)=true){av:AV}(hv:eN (pv (.cap x) (xg true σ) σ) av):
 ∃v,runs P a op ty w v∧NR G w σ a av v:=by
 cases op<;>first|(simp[au]at hc;done)|skip
 rename_i c
 simp only[au]at hc
 split at hc<;>try(cases hc;done)
 rename_i y ys t ts hb
 have hce:=mC hb
 subst hce
 simp only[Bool.and_eq_true]at hc
 obtain⟨hy,hsl⟩:=hc
 have hv':eN (Ih (xg true σ x)) av:=hv
 have hbx:=BR.aJ h hy
 generalize xg true σ x=xv at hbx hv'
 cases he:ct P t with
 |none=>rw[he]at hsl;cases hsl
 |some e=>
 have ht:=cC he
 unfold Ih at hv'
 split at hv'
 ·rename_i b o l cap
  rw[hv'.c8]
  refine⟨.int .i64 cap,fun _ _ _ _=>?_,NR.mk rfl (.int _ _) rfl⟩
  have hr:∀w',w'=w→(Builtin.cap_ (t::ts).toArray ty ((y::ys).toArray.map a.eval)).run P w'=.ok (.int .i64 cap) w':=fun w' _=>by rcases VR.cD hbx with e1|⟨_,rfl,e1⟩<;>simp[Builtin.cap_,run_underlying ht,goInt,e1]
  have hr:=hr w rfl
  simp[execOp,resolve,invoke,builtin]at hr⊢;simp[hr]
 ·exact hv'.no.elim
theorem J4{t:TypeId}(h:O1 P t=true):∃k,P.underlying t=some (.int k):=by
 unfold O1 at h
 split at h
 ·exact⟨_,by assumption⟩
 ·cases h
theorem AU{d:Nat}{R:Nat→Nat}:∀(fs:List Field)(k:Nat)(cs ds:List AV)(xs ys:Array Value),th P fs k=true→jB cs ds=true→cs.length=fs.length→
 (∀(j:Nat)(c:AV)(u:Value),cs[j]? =some c→xs[k+j]? =some u→VR w R c u)→(∀(j:Nat)(c:AV)(u:Value),ds[j]? =some c→ys[k+j]? =some u→VR w R c u)→k+cs.length≤xs.size→k+ds.length≤ys.size→
 (Op.eqFields (d+1) xs ys fs).run P w=.ok (rC cs ds) w
 |[],_,cs,ds,_,_,_,_,hl,_,_,_,_=>by
  have:cs=[]:=List.eq_nil_of_length_eq_zero hl
  subst this
  cases ds<;>simp[Op.eqFields,rC]
 |f::fs,k,cs,ds,xs,ys,hf,hall,hl,hx,hy,hxs,hys=>by
  match cs,ds,hall with
  |.int k1 a1::cs,.int k2 b1::ds,hall=>
   simp only[jB,Bool.and_eq_true]at hall
   obtain⟨hk,hall⟩:=hall
   have hk:k1=k2:=by simpa[Kb]using hk
   subst hk
   simp only[th,Bool.and_eq_true]at hf
   obtain⟨⟨⟨⟨hn,ho⟩,hi⟩,ha⟩,hf⟩:=hf
   have ho:f.offset=k:=by simpa using ho
   have hn:f.name≠ "_" :=by simpa using hn
   simp only[List.length_cons]at hxs hys hl
   have hx0:k<xs.size:=by omega
   have hy0:k<ys.size:=by omega
   have e1:=VR.bO (hx 0 _ _ rfl (Array.getElem?_eq_getElem (show k+0<xs.size by omega)))
   have e2:=VR.bO (hy 0 _ _ rfl (Array.getElem?_eq_getElem (show k+0<ys.size by omega)))
   simp only[Nat.add_zero]at e1 e2
   have p1:(part f.type xs f.offset).run P w=.ok (.int k1 a1) w:=by rw[ho];simp[part,jv ha,Array.getElem?_eq_getElem hx0,e1]
   have p2:(part f.type ys f.offset).run P w=.ok (.int k1 b1) w:=by rw[ho];simp[part,jv ha,Array.getElem?_eq_getElem hy0,e2]
   obtain⟨k',hu⟩:=J4 hi
   have p3:(Op.equalIn (d+1) f.type (.int k1 a1) (.int k1 b1)).run P w=.ok (a1==b1) w:=by simp[Op.equalIn,run_underlying hu]
   have ih:=AU (d:=d) fs (k+1) cs ds xs ys hf hall (by omega) (fun j c u hc hu=>hx (j+1) c u (by simpa using hc) (by rw[←hu];congr 1;omega)) (fun j c u hc hu=>hy (j+1) c u (by simpa using hc) (by rw[←hu];congr 1;omega)) (by omega) (by omega)
   show(Op.eqFields (d+1) xs ys (f::fs)).run P w=.ok ((a1==b1)&&rC cs ds) w
   simp only[Op.eqFields,if_pos hn,Sem.run_bind,p1,p2,p3,Result.andThen_ok]
   cases h:(a1==b1)
   ·simp
   ·simpa using ih
theorem yx:∀{cs ds:List AV},jB cs ds=true→ds.length=cs.length
 |[],[],_=>rfl
 |[],_::_,h=>by simp[jB]at h
 |c::cs,[],h=>by cases c<;>simp[jB]at h
 |c::cs,d::ds,h=>by
  cases c<;>cases d<;>simp[jB]at h
  simp[yx h.2]
theorem S8(h:Inv G n D σ a w){op:Op}{ty:TypeId}{m:Nat}{ne:Bool}{x y:IX}(hc:au P op ty (.R8 m ne x y)=true){av:AV}(hv:eN (pv (.R8 m ne x y) (xg true σ) σ) av):
 ∃v,runs P a op ty w v∧NR G w σ a av v:=by
 cases op<;>first|(simp[au]at hc;done)|skip
 rename_i b t u v yt
 simp only[au,Bool.and_eq_true,decide_eq_true_eq]at hc
 obtain⟨⟨⟨rfl,hx⟩,hy⟩,ht⟩:=hc
 have hbx:=BR.aJ h hx
 have hby:=BR.aJ h hy
 have hv':eN (MC m ne (xg true σ x) (xg true σ y)) av:=hv
 generalize xg true σ x=xv at hbx hv'
 generalize xg true σ y=yv at hby hv'
 unfold MC at hv'
 split at hv'
 ·rename_i cs ds
  cases hall:(jB cs ds&&cs.length==m)with
  |false=>rw[hall]at hv';exact hv'.no.elim
  |true=>
   rw[hall]at hv'
   rw[hv'.c8]
   rw[Bool.and_eq_true]at hall
   obtain⟨hall,hlen⟩:=hall
   have hlen:cs.length=m:=by simpa using hlen
   obtain⟨xs,e1,hl1,hr1,_⟩:=VR.l6 hbx
   obtain⟨ys,e2,hl2,hr2,_⟩:=VR.l6 hby
   unfold Ct at ht
   split at ht
   ·rename_i fs hu
    simp only[Bool.and_eq_true,Bool.not_eq_true']at ht
    obtain⟨⟨⟨hfi,hfs⟩,c6⟩,hg⟩:=ht
    have hfs:fs.size=m:=by simpa using hfs
    have hfo:P.fieldsOf t=fs:=by unfold Program.fieldsOf;rw[hu]
    have hlds:ds.length=cs.length:=yx hall
    have hrun:=AU (P:=P) (w:=w) (d:=9998) (R:=G.R) fs.toList 0 cs ds xs ys hfi hall (by rw[hlen];simpa using hfs.symm) (fun j c u hc hu=>hr1 j c u hc (by simpa using hu)) (fun j c u hc hu=>hr2 j c u hc (by simpa using hu)) (by omega) (by omega)
    have heq:(Op.equal t (.agg xs) (.agg ys)).run P w=.ok (rC cs ds) w:=by
     show(Op.equalIn (9999+1) t _ _).run P w=_
     rw[run_equalIn_struct w 9999 t xs ys (by rw[hfo];exact hu) c6,hfo]
     exact hrun
    refine⟨.bool (rC cs ds !=ne),fun _ _ _ _=>?_,NR.mk rfl (.bool _) rfl⟩
    have hgd:∀op,(eqGuard op t u v (.agg xs) (.agg ys)).run P w=.ok () w:=fun op=>run_eqGuard_agg w op t u v xs ys hg
    cases ne<;>simp[execOp,e1,e2,hgd,binOp,heq]
   ·cases ht
 ·exact hv'.no.elim
theorem VR.MO{R:Nat→Nat}{v:Value}(h:VR w R .nj v):v=.nilFunc:=by cases h;rfl
theorem Ta(h:Inv G n D σ a w){op:Op}{ty:TypeId}{ne:Bool}{x:IX}(hc:au P op ty (.R9 ne x)=true){av:AV}(hv:eN (pv (.R9 ne x) (xg true σ) σ) av):
 ∃v,runs P a op ty w v∧NR G w σ a av v:=by
 cases op<;>first|(simp[au]at hc;done)|skip
 rename_i b t u v yt
 simp only[au,Bool.and_eq_true,decide_eq_true_eq]at hc
 obtain⟨⟨⟨rfl,hx⟩,hy⟩,ht⟩:=hc
 have e2:a.eval v=.nilFunc:=by
  split at hy
  ·rfl
  ·cases hy
 split at ht<;>try(cases ht;done)
 rename_i q1 q2 q3 htu
 have hbx:=BR.aJ h hx
 have hv':eN (ID ne (xg true σ x)) av:=hv
 generalize xg true σ x=xv at hbx hv'
 have key:∀(fv:Value)(r:Bool),a.eval u=fv→(∀d:Nat,(Op.equalIn (d+1) t fv .nilFunc).run P w=.ok r w)→runs P a (.binOp (if ne=true then .neq else .eql) t u v yt) ty w (.bool (r !=ne)):=by
  intro fv r e1 hr _ _ _ _
  have hq:(Op.equal t fv .nilFunc).run P w=.ok r w:=hr 9999
  cases fv<;>cases ne<;>simp[execOp,e1,e2,eqGuard,binOp,hq]
 unfold ID at hv'
 split at hv'
 ·rename_i f first caps
  rw[hv'.c8]
  obtain⟨vf,vc,e1,_⟩:=VR.IL hbx
  have:=key _ false e1 fun d=>by simp[Op.equalIn,run_underlying htu]
  exact⟨_,this,NR.mk rfl (by cases ne<;>exact .bool _) rfl⟩
 ·rw[hv'.c8]
  have e1:=VR.MO hbx
  have:=key _ true e1 fun d=>by simp[Op.equalIn,run_underlying htu]
  exact⟨_,this,NR.mk rfl (by cases ne<;>exact .bool _) rfl⟩
 ·exact hv'.no.elim
theorem VR.MP{R:Nat→Nat}{v:Value}(h:VR w R .jX v):v=.nilIface:=by cases h;rfl
theorem Tb(h:Inv G n D σ a w){op:Op}{ty:TypeId}{ne:Bool}{x:IX}(hc:au P op ty (.Ol ne x)=true){av:AV}(hv:eN (pv (.Ol ne x) (xg true σ) σ) av):
 ∃v,runs P a op ty w v∧NR G w σ a av v:=by
 cases op<;>first|(simp[au]at hc;done)|skip
 rename_i b t u v yt
 simp only[au,Bool.and_eq_true,decide_eq_true_eq]at hc
 obtain⟨⟨⟨rfl,hx⟩,hy⟩,ht⟩:=hc
 have hvc:v=.const .nilIface:=by
  split at hy
  ·rfl
  ·cases hy
 subst hvc
 have e2:a.eval (.const .nilIface)=.nilIface:=rfl
 split at ht<;>try(cases ht;done)
 rename_i q1 htu
 have hbx:=BR.aJ h hx
 have hv':eN (GB ne (xg true σ x)) av:=hv
 generalize xg true σ x=xv at hbx hv'
 have key:∀(fv:Value)(r:Bool),a.eval u=fv→(∀d:Nat,(Op.equalIn (d+1) t fv .nilIface).run P w=.ok r w)→runs P a (.binOp (if ne=true then .neq else .eql) t u (.const .nilIface) yt) ty w (.bool (r !=ne)):=by
  intro fv r e1 hr _ _ _ _
  have hq:(Op.equal t fv .nilIface).run P w=.ok r w:=hr 9999
  cases fv<;>cases ne<;>simp[execOp,e1,e2,eqGuard,binOp,hq]
 unfold GB at hv'
 split at hv'
 ·rw[hv'.c8]
  have e1:=VR.MP hbx
  have:=key _ true e1 fun d=>by simp[Op.equalIn,run_underlying htu]
  exact⟨_,this,NR.mk rfl (by cases ne<;>exact .bool _) rfl⟩
 ·exact hv'.no.elim
theorem wV(h:Inv G n D σ a w){op:Op}{ty:TypeId}{o:rh}(hc:au P op ty o=true){av:AV}(hv:eN (pv o (xg true σ) σ) av):
 ∃v,runs P a op ty w v∧NR G w σ a av v:=by
 cases o with
 |iT tr x=>cases tr with
  |false=>exact Tf h hc hv
  |true=>exact(eN.no hv).elim
 |pick c x y=>exact PM h hc hv
 |bin b x y=>exact S5 h hc hv
 |QO ne x y=>exact S9 h hc hv
 |F4 ne x y=>exact Tc h hc hv
 |OS ne x y=>exact Td h hc hv
 |un u x=>exact WN h hc hv
 |dN k x=>exact Lp h hc hv
 |AQ x=>exact Nu h hc hv
 |load m mu x=>exact FA h hc hv
 |field m mu off x=>exact Nv h hc hv
 |index m mu len x i=>exact Nw h hc hv
 |dJ x i=>exact Lv h hc hv
 |nilCheck x=>exact Hs h hc hv
 |fieldAddr off x=>exact Fy h hc hv
 |indexAddr sz x i=>exact Fz h hc hv
 |jh sz len x i=>exact Da h hc hv
 |slice sz x lo hi mx=>exact Nz h hc hv
 |jq x lo hi=>exact Lw h hc hv
 |len cls x=>exact Te h hc hv
 |KD m=>exact PL hc hv
 |hZ mx xs=>exact Ls h hc hv
 |extract x k=>exact Jq h hc hv
 |build z ps=>exact Ns h hc hv
 |lC f a b=>exact Lr h hc hv
 |fA x=>exact Lq h hc hv
 |bW z m x=>exact Ny h hc hv
 |lN k x=>exact Nx h hc hv
 |cap x=>exact S6 h hc hv
 |R8 m ne x y=>exact S8 h hc hv
 |R9 ne x=>exact Ta h hc hv
 |Ol ne x=>exact Tb h hc hv
 |_=>exact(eN.no hv).elim
end
end Go.AB
end
