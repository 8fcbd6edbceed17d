/- A part. -/
import Derived.Test.YtgecakgfnjkkbaaGreatRt24
set_option linter.defProp false
set_option linter.unusedSimpArgs false
set_option linter.unusedVariables false
section
set_option maxRecDepth 16000
namespace Go.AB
open Go
open Go.Proofs.Tryz (prog)
attribute[-go_sem] Nat.add_zero mi cy
def yw:IC:=dec 0x24211861a9a79b9ff8e46707034f1b6e91dbfd5c2bd0dadc824473a
def IV:ey prog 40 11 [⟨2,true,none⟩] yw=true:=By
def BA:IC:=dec 0x116198e47d8ef7f9f32b2c4d2de4665940a4c4c64aebd14ca6f01f94d213cc00473a
def rp:List jr:=[⟨2,true,none⟩]
def BF:ey prog 37 10 rp BA=true:=By
def Bz:IC:=dec 0x112d52d4a6a54c019ed81839d0a89b8e668b45382277a1b28f1f547178174403d002a7be464319dd5a3a86ca3f3e469eaca6f12312f24d3980083fa
def rn:List jr:=[⟨4,true,none⟩]
def BE:ey prog 11 20 rn Bz=true:=By
def wg:IC:=dec 0x923974c0fbb3b2dc9183dc6150e58f33a47d2edaf6b0c5da8f4cad8bda29f64ca8fbf7e70a9629b867204fd330bcdd7f61159ce502281bd61d9005388478b
def Fm:ey prog 33 14 [⟨2,true,none⟩,⟨3,true,none⟩] wg=true:=By
def BC:IC:=dec 0x543ce48373327505817b0efc92c6830bef6afd3bdb37e78588291cbe69e5341827bfe511f4628790540e3374655a10ee848a7c6f2b11388473a
def ru:List jr:=[⟨2,true,none⟩]
def BI:ey prog 13 17 ru BC=true:=By
def sJ:IC:=dec 0x10c7b6cb4b05db1d8c2f84d28d3ac432a1f789cf659a501ea157f274a2a5b219242bcb534be247f670edba3de5d5aab5a2b61560341309d6666c5cf3d75b0c606a5feac9d0c566da7906fee8c990040926d08b5d554d4c73310f9eedc8768d059bc67dac40dfcfb1888365d44bbc8b9ae0e91d4cf54874c7c772e9c272c6c319ef0053ae4ce34b692b56ccb8bc4d1b7d20aba6b2fa6f471ff2557243cf3ce831ccfb4def4e3295
def BG:ey prog 69 47 [] sJ=true:=By
def wc:IC:=dec 0xd98fef2da6095ab97ab82bcee95616a2db6d65c782c5db92cb4c10711c8e42b3f1257d3935fe3749b99e7861be926b6c1e678372b7f443dbb53d44a5292ad2ae9496df5a7578fa914d0c2ce6338e2ecccba8c0dca2e3622fd01a2f114262458980f9d808d554d0212f4fcaf501cc616a2b6721e91aa8312eed7dc9fd87e0836b535765a1017f6b2270fffc6f9f8df50358b0eb0a8e84f870df7b9cd01c21e2dbe9dd1f0d836a96348daf9f98e4bfceba58fb0bb3d840ab50222320cb6275d339ce32b0245578f578dfbfb3e6e88a2d22d46979e015f04adc6e71847df9dad66d1be5cf1018105a582b4384b03d6e18ef198c2eb064d239ed11a05a7a870de3231de836dc801acdc976400c0ba
def Fj:ey prog 34 71 [⟨6,true,none⟩] wc=true:=By
abbrev J7:=Int->Option (List UInt8)
structure iS where
 total:Int
 known:List aj
 sG:J7
def pR(m:J7)(k:Int)(l:List UInt8):J7:=fun i=>if i=k then some l else m i
def KI(es:List (AV×AV)):Prop:=∀p∈es,∃(k:Int)(v:AV),p=(.int .i64 k,v)
def Cp(s0 s:ae)(es:List (AV×AV))(k:Int):Option (List UInt8)->Prop
 |none=>fS (.int .i64 k) es=none
 |some l=>l.length=4096/\∃b,fS (.int .i64 k) es=some (.arr b 0 4096 4096)/\s0 b=none/\s b=some (.cells (flat l))
def Inj(es:List (AV×AV)):Prop:=∀k k' b,fS (.int .i64 k) es=some (.arr b 0 4096 4096)->fS (.int .i64 k') es=some (.arr b 0 4096 4096)->k=k'
def fg(s0 s:ae)(B:Nat)(g:iS):Prop:=Sub s0 s/\s0 B=none/\∃M es,s B=some (.cells [.bool true,.int .i64 g.total,EY g.known,.mp M])/\s0 M=none/\s M=some (.map es)/\KI es/\(∀k,Cp s0 s es k (g.sG k))/\Inj es
def afH(cs:List AV):Prop:=∀c∈cs,∃m:Int,c=.int .u8 m
def Zr(l:List UInt8):afH (flat l):=fun c hc=>by
 obtain⟨y,hy,hc⟩:=List.mem_flatten.1 hc
 obtain⟨z,_,rfl⟩:=List.mem_map.1 hy
 exact⟨_,List.mem_singleton.1 hc⟩
theorem Pn{l:List UInt8}{r:List AV}(h:flat l=.bool true::r):False:=by
 obtain⟨m,hm⟩:=Zr l (.bool true) A_
 cases hm
def Cp.mono{s0 s s':ae}{es:List (AV×AV)}{k:Int}{o:Option (List UInt8)}(h:Cp s0 s es k o)(hs:∀b l,s b=some (.cells (flat (l:List UInt8)))->s' b=some (.cells (flat l))):Cp s0 s' es k o:=by
 cases o with
 |none=>exact h
 |some l=>obtain⟨h1,b,h2,h3,h4⟩:=h;exact⟨h1,b,h2,h3,hs b l h4⟩
theorem fg.setAt{s0 s:ae}{B:Nat}{g:iS}(h:fg s0 s B g):∃cs,AE s B 2 cs g.known/\∀l,fg s0 (s.set B (.cells (AB.setAt cs 2 [EY l]))) B ⟨g.total,l,g.sG⟩:=by
 obtain⟨h1,h2,M,es,h3,h4,h5,h6,h7,h8⟩:=h
 refine⟨_,⟨h3,rfl⟩,fun l=>⟨fun b o hb=>?_,h2,M,es,?_,h4,?_,h6,fun k=>(h7 k).mono fun b l hb=>?_,h8⟩⟩
 ·rw[af (fun e=>A_)];exact h1 b o hb
 ·rw[cE];rfl
 ·rw[af (fun e=>A_)];exact h5
 ·rw[af (fun e=>by
   rw[e,h3]at hb
   injection hb with hb;injection hb with hb
   exact Pn hb.symm)]
  exact hb
theorem KI.keys{es:List (AV×AV)}(h:KI es):kV (.int .i64) es=true:=by
 unfold kV
 rw[List.all_eq_true]
 intro p hp
 obtain⟨k,v,rfl⟩:=h p hp
 rfl
theorem oB(k k':Int)(v:AV):∀{es:List (AV×AV)},KI es->fS (.int .i64 k) (uk (.int .i64 k') v es)=if k=k' then some v else fS (.int .i64 k) es
 |[],_=>by
  simp only[uk,fS,ml]
  by_cases h:k=k'
  ·simp
  ·rw[if_neg h,show(k==k')=false by simpa using h];rfl
 |p::es,h=>by
  obtain⟨j,u,rfl⟩:=h p List.mem_cons_self
  have ih:=oB k k' v fun q hq=>h q (List.mem_cons_of_mem _ hq)
  simp[uk,ml]
  by_cases e:k'=j
  ·subst e
   by_cases h:k=k'
   ·simp[fS,ml,h]
   ·simp only[beq_self_eq_true,cond_true,fS,ml];rw[if_neg h,show(k==k')=false by simpa using h];rfl
  ·rw[show(k'==j)=false by simpa using e]
   simp only[cond_false,fS,ml,ih]
   by_cases h:k=j
   ·subst h;simp[if_neg (fun h:k=k'=>e h.symm)]
   ·rw[show(k==j)=false by simpa using h];simp
theorem KI.put{k:Int}{v:AV}:∀{es:List (AV×AV)},KI es->KI (uk (.int .i64 k) v es)
 |[],_=>fun p hp=>by
  rcases List.mem_cons.1 hp with rfl|hp
  ·exact⟨k,v,rfl⟩
  ·cases hp
 |q::es,h=>by
  unfold uk
  cases hk:nc (.int .i64 k) q.1 with
  |true=>
   intro p hp
   rcases List.mem_cons.1 hp with rfl|hp
   ·exact⟨k,v,rfl⟩
   ·exact h p (List.mem_cons_of_mem _ hp)
  |false=>
   intro p hp
   rcases List.mem_cons.1 hp with rfl|hp
   ·exact h _ List.mem_cons_self
   ·exact KI.put (fun q' hq=>h q' (List.mem_cons_of_mem _ hq)) p hp
def fg.row{s0 s:ae}{B b M:Nat}{g:iS}{es:List (AV×AV)}{k:Int}{l l':List UInt8}(h:fg s0 s B g)(hB:s B=some (.cells [.bool true,.int .i64 g.total,EY g.known,.mp M]))(hM:s M=some (.map es))(hb:s0 b=none)(hk:fS (.int .i64 k) es=some (.arr b 0 4096 4096))(h1:s b=some (.cells (flat l)))(h3:l'.length=4096):
 fg s0 (s.set b (.cells (flat l'))) B ⟨g.total,g.known,pR g.sG k l'⟩:=by
 obtain⟨q1,q2,M',es',q3,q4,q5,q6,q7,q8⟩:=h
 have eM:M'=M:=A_
 have eE:es'=es:=A_
 subst eE
 have nB:B≠b:=fun e=>by
  rw[<-e,q3]at h1
  injection h1 with h1;injection h1 with h1
  exact Pn h1.symm
 have nM:M'≠b:=fun e=>A_
 refine⟨fun c o hc=>?_,q2,M',es',by rw[af nB];exact q3,q4,by rw[af nM];exact q5,q6,fun i=>?_,q8⟩
 ·rw[af (fun e=>A_)];exact q1 c o hc
 ·show Cp _ _ _ i (if i=k then some l' else g.sG i)
  by_cases hi:i=k
  ·subst hi;rw[if_pos rfl];exact⟨h3,b,hk,hb,cE ..⟩
  ·rw[if_neg hi]
   have h:=q7 i
   cases ho:g.sG i with
   |none=>rw[ho]at h;exact h
   |some l2=>
    rw[ho]at h
    obtain⟨w1,b2,w2,w3,w4⟩:=h
    exact⟨w1,b2,w2,w3,by rw[af (fun e=>hi (q8 i k b2 w2 A_))];exact w4⟩
theorem fg.put{s0 s:ae}{B M b:Nat}{g:iS}{es:List (AV×AV)}{k:Int}{l:List UInt8}(h:fg s0 s B g)(hB:s B=some (.cells [.bool true,.int .i64 g.total,EY g.known,.mp M]))(hM:s M=some (.map es))(hb:s b=none)(h3:l.length=4096):
 fg s0 ((s.set b (.cells (flat l))).set M (.map (uk (.int .i64 k) (.arr b 0 4096 4096) es))) B ⟨g.total,g.known,pR g.sG k l⟩:=by
 obtain⟨q1,q2,M',es',q3,q4,q5,q6,q7,q8⟩:=h
 have eM:M'=M:=A_
 subst eM
 have eE:es'=es:=A_
 subst eE
 have nBb:B≠b:=fun e=>A_
 have nMb:M'≠b:=fun e=>A_
 have nB:B≠M':=fun e=>A_
 have fb:∀i,fS (.int .i64 i) es'≠some (.arr b 0 4096 4096):=fun i e=>by
  have h:=q7 i
  cases ho:g.sG i with
  |none=>rw[ho]at h;rw[h]at e;cases e
  |some l2=>
   rw[ho]at h
   obtain⟨w1,b2,w2,w3,w4⟩:=h
   rw[w2]at e;injection e with e;injection e with e
   rw[e,hb]at w4;cases w4
 refine⟨fun c o hc=>?_,q2,M',_,by rw[af nB,af nBb];exact q3,q4,cE ..,q6.put,fun i=>?_,fun i j c hi hj=>?_⟩
 ·rw[af (fun e=>A_),af (fun e=>by rw[e,Sub.none q1 hb]at hc;cases hc)];exact q1 c o hc
 ·show Cp _ _ _ i (if i=k then some l else g.sG i)
  by_cases hi:i=k
  ·subst hi;rw[if_pos rfl]
   exact⟨h3,b,by rw[oB _ _ _ q6,if_pos rfl],Sub.none q1 hb,by rw[af (Ne.symm nMb),cE]⟩
  ·rw[if_neg hi]
   have h:=q7 i
   cases ho:g.sG i with
   |none=>rw[ho]at h;show fS _ _=none;rw[oB _ _ _ q6,if_neg hi];exact h
   |some l2=>
    rw[ho]at h
    obtain⟨w1,b2,w2,w3,w4⟩:=h
    exact⟨w1,b2,by rw[oB _ _ _ q6,if_neg hi];exact w2,w3,by rw[af (fun e=>A_),af (fun e=>A_)];exact w4⟩
 ·rw[oB _ _ _ q6]at hi hj
  by_cases ei:i=k
  ·by_cases ej:j=k
   ·rw[ei,ej]
   ·rw[if_pos ei]at hi;rw[if_neg ej]at hj
    rw[<-hi]at hj;exact absurd hj (fb j)
  ·rw[if_neg ei]at hi
   by_cases ej:j=k
   ·rw[if_pos ej]at hj
    rw[<-hj]at hi;exact absurd hi (fb i)
   ·rw[if_neg ej]at hj;exact q8 i j c hi hj
def nR{s0 s:ae}{B:Nat}{g:iS}{Q:List AV->ae->Prop}(h:fg s0 s B g)(hq:Q [.bool true] s):FN prog 40 [.ref B 0] s Q:=by
 obtain⟨h1,h2,M,es,h3,h4,h5,h6⟩:=h
 refine FN.j8 (FO IV rfl rfl ?_)
 rw[yw]
 refine Xf9 ?_
 refine Xg2 h3 ?_
 exact⟨s,Sub.refl s,hq⟩
def Bl{s0 s:ae}{B:Nat}{g:iS}{Q:List AV->ae->Prop}(h:fg s0 s B g)(hq:Q [.int .i64 g.total] s):FN prog 37 [.ref B 0] s Q:=by
 refine FN.j8 (FO BF rfl rfl ?_)
 rw[rp]
 refine nR h ?_
 obtain⟨h1,h2,M,es,h3,h4,h5,h6⟩:=h
 refine Xg2 h3 ?_
 exact⟨fun h=>h.elim,fun _=>⟨s,Sub.refl s,hq⟩⟩
def sD{s0 s:ae}{B:Nat}{g:iS}{at_:Int}{Q:List AV->ae->Prop}(h:fg s0 s B g):ok (lD g.known (max 0 at_)) (fun r=>Q [.int .i64 (min g.total r)] s)->FN prog 11 [.ref B 0,.int .i64 at_] s Q:=by
 intro hh
 refine FN.j8 (FO BE rfl rfl ?_)
 rw[rn]
 refine nR h ?_
 obtain⟨cs,hs,_⟩:=h.setAt
 obtain⟨h1,h2,M,es,h3,h4,h5,h6⟩:=h
 refine Xg2 h3 ?_
 refine⟨fun h=>h.elim,fun _=>?_⟩
 obtain⟨r,hr,hq⟩:=hh
 refine⟨[.int .i64 r],rfl,AF hs ⟨r,hr,rfl,rfl⟩,?_⟩
 refine Xe4 ?_
 exact⟨s,Sub.refl s,hq⟩
def wu{s:ae}{n:Int}{Q:List AV->ae->Prop}(hn:0<=n/\n<=2147483647)(hq:∀B s',fg s s' B ⟨n,[],fun _=>none⟩->Q [.ref B 0,.int .i64 0] s'):FN prog 33 [.int .i64 n] s Q:=by
 refine FN.j8 (FO Fm rfl rfl ?_)
 rw[wg]
 refine Xf9 ?_
 refine Xe4 ?_
 refine⟨fun h=>?_,fun _ M hM B hB=>⟨_,Sub.refl _,hq B _ ⟨((Sub.refl s).set hM).set hB,?_,M,[],cE ..,hM,?_,fun p hp=>A_,fun k=>rfl,fun k k' b h=>F_⟩⟩⟩
 ·simp at h;omega
 ·rw[di]at hB;exact hB.2
 ·rw[di]at hB;rw[af (Ne.symm hB.1),cE]
theorem Rg{es:List (AV×AV)}{n:Int}(h:KI es)(e:fS (.int .i64 n) es=none):oe (.int .i64) (.sl false 1 0 []) true (.int .i64 n) (some (.map es))=.prt True (.iJ [.sl false 1 0 [],.bool false]):=by
 show Ks true (ft (.int .i64) (.int .i64 n)=true/\kV (.int .i64) es=true) (uc (.sl false 1 0 []) true (fS (.int .i64 n) es))=_
 rw[e,h.keys]
 show PR.prt (true=true/\true=true) _=_
 simp[uc,EU,view]
theorem Rh{es:List (AV×AV)}{n:Int}{b:Nat}(h:KI es)(e:fS (.int .i64 n) es=some (.arr b 0 4096 4096)):oe (.int .i64) (.sl false 1 0 []) true (.int .i64 n) (some (.map es))=.prt True (.iJ [.arr b 0 4096 4096,.bool true]):=by
 show Ks true (ft (.int .i64) (.int .i64 n)=true/\kV (.int .i64) es=true) (uc (.sl false 1 0 []) true (fS (.int .i64 n) es))=_
 rw[e,h.keys]
 show PR.prt (true=true/\true=true) _=_
 simp[uc,EU,view]
theorem Cw{o:Nat}(h:o<4096):jA 0 4096 o 1=o:=by
 unfold jA
 rw[show(4096==o)=false by simp;omega];simp
def oq(c:List UInt8)(o:Nat)(x:List UInt8):List UInt8:=c.take o++x++c.drop (o+x.length)
def ahs{c x:List UInt8}{o:Nat}(h:o+x.length<=c.length):(oq c o x).length=c.length:=by unfold oq;simp[List.length_append,List.length_take,List.length_drop];omega
theorem Zt(m:J7)(k:Int)(x y:List UInt8):pR (pR m k x) k y=pR m k y:=by funext i;unfold pR;by_cases h:i=k<;>simp[h]
def cpy{E:St}{d:Option Nat}{K:St->Prop}{s0:ae}{B b M:Nat}{g:iS}{es:List (AV×AV)}{k:Int}{c l:List UInt8}{o o' n cap:Nat}(h:fg s0 E.s B g)(hB:E.s B=some (.cells [.bool true,.int .i64 g.total,EY g.known,.mp M]))(hM:E.s M=some (.map es))(hb:s0 b=none)
 (hk:fS (.int .i64 k) es=some (.arr b 0 4096 4096))(h2:E.s b=some (.cells (flat c)))(h3:c.length=4096)(ho:o<4096)(he:o'=o)(hn:n=4096 -o)
 (hK:∀s3,fg s0 s3 B ⟨g.total,g.known,pR g.sG k (oq c o (l.take (min l.length (4096 -o))))⟩->K ({E with s:=s3}.put d (.int .i64 (min l.length (4096 -o):Nat)))):zA 1 E d K (.arr b o' n cap) (some (l.length,flat l)):=by
 subst he;subst hn
 have hf:(flat c).length=4096:=by rw[au,h3];rfl
 refine me h2 AT (hK _ ?_)
 have hl:(l.take (min l.length (4096 -o'))).length=min l.length (4096 -o'):=BY
 have e:=im c (l.take (min l.length (4096 -o'))) [] 1 o' rfl AT
 rw[List.append_nil,List.append_nil,Nat.mul_one]at e
 have e2:(flat l).take (min l.length (4096 -o')*1)=flat (l.take (min l.length (4096 -o'))):=uN l _
 rw[e2,e]
 exact fg.row h hB hM hb hk h2 A_
def Wx:List UInt8:=List.replicate 4096 0
def ER:Int×List UInt8×J7->Option ((Int×List UInt8×J7)⊕J7):=fun(a,l,m)=>
 if decide ((l.length:Int)>0)then
  some (.inl (aC (a+(min l.length (4096 -(a.tmod 4096).toNat):Nat)),l.drop (min l.length (4096 -(a.tmod 4096).toNat)),
   pR m (aC (a.tdiv 4096)) (oq ((m (aC (a.tdiv 4096))).getD Wx) (a.tmod 4096).toNat (l.take (min l.length (4096 -(a.tmod 4096).toNat))))))
 else some (.inr m)
def Bm{s0 s:ae}{B:Nat}{g:iS}{a0:Int}{l0:List UInt8}{Q:List AV->ae->Prop}(h:fg s0 s B g)(h0:0<=a0)(h1:a0+l0.length<=9223372036854775807):
 ok (iter ER (a0,l0,g.sG)) (fun m=>∀s',fg s0 s' B ⟨g.total,g.known,m⟩->Q [] s')->FN prog 69 [.ref B 0,.int .i64 a0,.sl false 1 l0.length (flat l0)] s Q:=by
 intro hw
 refine FN.j8 (FO BG rfl rfl ?_)
 rw[sJ]
 refine Xf9 ?_
 revert hw
 refine lN (fun st τ=>0<=st.1/\st.1+(st.2.1.length:Int)<=9223372036854775807/\∃s',τ=⟨[(0,.ref B 0),(1,.int .i64 st.1),(2,.sl false 1 st.2.1.length (flat st.2.1))],[],s'⟩/\fg s0 s' B ⟨g.total,g.known,st.2.2⟩) ⟨h0,h1,s,rfl,h⟩ ?_
 rintro J ⟨a,l,m⟩ τ ⟨ha,hal,s',rfl,hs⟩
 have ha:0<=a:=ha
 have hal:a+(l.length:Int)<=9223372036854775807:=hal
 obtain⟨q1,q2,M,es,q3,q4,q5,q6,q7,q8⟩:=id hs
 rw[ER]
 refine Xh8 q3 q5 ?_
 rintro⟨hw1,hw2⟩
 refine⟨fun hc=>⟨B_,B_,?_⟩,fun hc=>⟨s',Sub.refl s',hw2 hc s' hs⟩⟩
 have hw:=hw1 hc
 clear hw1 hw2
 have hm:0<=a.tmod 4096:=Int.tmod_nonneg _ ha
 have hm2:a.tmod 4096<4096:=Int.tmod_lt_of_pos _ B_
 have hN:min l.length (4096 -(a.tmod 4096).toNat)<=l.length:=Nat.min_le_left ..
 have fX:∀N,AB.sub (flat l) (N*1) ((l.length -N)*1)=flat (l.drop N):=fun N=>by rw[lH l 1 N (l.length -N) rfl,List.take_of_length_le BY]
 have hlen:∀N,(flat (l.drop N)).length/1=(l.drop N).length:=fun N=>by rw[Nat.div_one,au];exact Nat.mul_one _
 have hj:∀c,(m (aC (a.tdiv 4096))).getD Wx=c->∀s3,fg s0 s3 B ⟨g.total,g.known,pR m (aC (a.tdiv 4096)) (oq c (a.tmod 4096).toNat (l.take (min l.length (4096 -(a.tmod 4096).toNat))))⟩->J ⟨[(0,.ref B 0),(1,.int .i64 (aC (a+(min l.length (4096 -(a.tmod 4096).toNat):Nat)))),(2,.sl false 1 (l.drop (min l.length (4096 -(a.tmod 4096).toNat))).length (flat (l.drop (min l.length (4096 -(a.tmod 4096).toNat)))))],[],s3⟩:=fun c hcc s3 h3=>by
  subst hcc
  have hw':aC (a+(min l.length (4096 -(a.tmod 4096).toNat):Nat))=a+(min l.length (4096 -(a.tmod 4096).toNat):Nat):=ao AT AT
  refine hw _ ⟨?_,?_,s3,rfl,h3⟩
  ·show 0<=aC _;rw[hw'];omega
  ·show aC _+((l.drop _).length:Int)<=_;rw[hw',List.length_drop];omega
 have q7':=q7 (aC (a.tdiv 4096))
 cases hmk:m (aC (a.tdiv 4096))with
 |none=>
  have e:fS (.int .i64 (aC (a.tdiv 4096))) es=none:=by rw[show(iS.sG ⟨g.total,g.known,m⟩) (aC (a.tdiv 4096))=none from hmk]at q7';exact q7'
  rw[Rg q6 e]
  refine Xh8 q3 q5 ?_
  refine⟨fun _=>⟨B_,B_,B_,fun b hb=>?_⟩,fun h=>F_⟩
  have hB:B≠b:=fun e=>by rw[<-e,q3]at hb;cases hb
  have hM:M≠b:=fun e=>by rw[<-e,q5]at hb;cases hb
  have hBM:B≠M:=fun e=>by rw[e,q5]at q3;cases q3
  have e1:s0 b=none:=Sub.none q1 hb
  simp -implicitDefEqProofs only[go_sem,Nat.reduceBEq,Nat.reduceAdd,Nat.reduceMul,Nat.reduceLeDiff,Nat.reduceEqDiff,Nat.reduceBNe,UInt8.reduceToNat,UInt32.reduceToNat,af hB,af hM,q3,q5]
  refine⟨⟨rfl,rfl,q6.keys⟩,?_⟩
  refine Xf6 ?_
  refine⟨⟨hm,Int.le_of_lt hm2,Int.le_refl _⟩,?_⟩
  rw[gn,aF]
  have hss:=fg.put (k:=aC (a.tdiv 4096)) (l:=List.replicate (Int.toNat 4096) (0:UInt8)) hs q3 q5 hb (by rw[List.length_replicate];rfl)
  refine cpy (o:=(a.tmod 4096).toNat) (c:=List.replicate (Int.toNat 4096) (0:UInt8)) hss (by show ae.set (ae.set s' b _) M _ B=_;rw[af hBM,af hB];exact q3) (cE ..) e1 (by rw[oB _ _ _ q6,if_pos rfl];rfl) (by show ae.set (ae.set s' b _) M _ b=_;rw[af (Ne.symm hM),cE]) (by rw[List.length_replicate];rfl) AT (Cw AT) C_ fun s3 h3=>?_
  refine Xf6 ?_
  rw[fX,hlen]
  exact⟨AT,hj (List.replicate (Int.toNat 4096) (0:UInt8)) (by rw[hmk];rfl) s3 (by have h4:=h3;rw[Zt]at h4;exact h4)⟩
 |some c=>
  obtain⟨w1,b,e,e1,e2⟩:Cp s0 s' es (aC (a.tdiv 4096)) (some c):=by rw[show(iS.sG ⟨g.total,g.known,m⟩) (aC (a.tdiv 4096))=some c from hmk]at q7';exact q7'
  rw[Rh q6 e]
  refine Xh8 q3 q5 ?_
  refine⟨fun h=>F_,fun _=>?_⟩
  refine⟨⟨hm,Int.le_of_lt hm2,Int.le_refl _⟩,?_⟩
  rw[gn,aF]
  refine cpy (o:=(a.tmod 4096).toNat) hs q3 q5 e1 e e2 w1 AT (Cw AT) AT fun s3 h3=>?_
  refine Xf6 ?_
  rw[fX,hlen]
  exact⟨AT,hj c (by rw[hmk];rfl) s3 h3⟩
def YE(a:Int)(l:List UInt8)(ms:List aj):Int×J7->Option ((Int×J7)⊕J7):=fun(k,m)=>
 if decide (k<(ms.length:Int))then
  a8 (0<=k/\k<ms.length/\(a<=(ix ms k).aP/\(ix ms k).aP<=(ix ms k).To/\(ix ms k).To<=a+l.length))<|
  aZ (iter ER ((ix ms k).aP,part l ((ix ms k).aP -a) ((ix ms k).To -a),m)) fun m'=>
  some (.inl (aC (k+1),m'))
 else some (.inr m)
def kO(g:iS)(a:Int)(l:List UInt8):Option (iS×Int):=
 if decide (a<0)||decide (a>g.total)then some (g,2)
 else if decide ((l.length:Int)>aC (g.total -a))then some (g,5)
 else
  aZ (pS g.known ⟨a,aC (a+l.length)⟩) fun ms=>
  aZ (iter (YE a l ms) (0,g.sG)) fun m=>
  aZ (B8 g.known ⟨a,aC (a+l.length)⟩) fun kn=>some (⟨g.total,kn,m⟩,0)
def vQ{s0 s:ae}{B:Nat}{g:iS}{a:Int}{l:List UInt8}{Q:List AV->ae->Prop}(h:fg s0 s B g)(ht:g.total<=2147483647):ok (kO g a l) (fun r=>∀s',fg s0 s' B r.1->Q [.int .i64 r.2] s')->FN prog 34 [.ref B 0,.int .i64 a,.sl false 1 l.length (flat l)] s Q:=by
 intro hh
 refine FN.j8 (FO Fj rfl rfl ?_)
 rw[wc]
 refine Xf9 ?_
 refine Xe4 ?_
 refine nR h ?_
 obtain⟨cs,hs,C7⟩:=h.setAt
 have h3:∃M,s B=some (.cells [.bool true,.int .i64 g.total,EY g.known,.mp M]):=by obtain⟨_,_,M,_,h3,_⟩:=h;exact⟨M,h3⟩
 obtain⟨M,h3⟩:=h3
 revert hh
 rw[kO]
 refine Xg2 h3 ?_
 rintro⟨w1,w2⟩
 refine⟨fun h=>h.elim,fun _=>⟨fun hc=>⟨s,Sub.refl s,w1 hc s h⟩,fun hc=>⟨fun hd=>⟨s,Sub.refl s,(w2 hc).1 hd s h⟩,fun hd=>?_⟩⟩⟩
 obtain⟨ms,m1,hh⟩:=(w2 hc).2 hd
 refine⟨[slw ms],rfl,Cr hs ⟨ms,m1,rfl,rfl⟩,?_⟩
 clear w1 w2
 have hc1:0<=a/\a<=g.total:=z_
 have hl:a+l.length<=g.total:=by
  have hd:¬((l.length:Int)>aC (g.total -a)):=by simpa using hd
  rw[ao AT AT]at hd;omega
 have hw:aC (a+l.length)=a+l.length:=ao AT AT
 rw[hw]at hh⊢
 refine Xe4 ?_
 revert hh
 refine lN (fun k τ=>∃s',τ=⟨[(0,.ref B 0),(1,.int .i64 a),(2,.sl false 1 l.length (flat l)),(7,.loc [.int .i64 a,.int .i64 (a+l.length)]),(45,slw ms),(46,.int .i64 (ms.length:Nat)),(47,.int .i64 k.1)],[],s'⟩/\fg s0 s' B ⟨g.total,g.known,k.2⟩) ⟨s,rfl,h⟩ ?_
 rintro J ⟨k,m⟩ τ ⟨s',rfl,h'⟩
 obtain⟨cs',hs',agE⟩:=h'.setAt
 have fX:=h'.1
 rw[YE]
 refine Xe4 ?_
 rintro⟨w1,w2⟩
 refine⟨fun hk=>?_,fun hk=>?_⟩
 ·obtain⟨⟨k1,k2,k3,k4,k5⟩,w1⟩:=w1 hk
  refine⟨⟨k1,k2⟩,?_⟩
  rw[ao (n:=(ix ms k).aP -a) AT AT,ao (n:=(ix ms k).To -a) AT AT]
  refine⟨⟨AT,AT,AT⟩,?_⟩
  refine Bm h' AT ?_ (aJ w1 fun m' w1 s3 h3=>?_)
  ·have:(part l ((ix ms k).aP -a) ((ix ms k).To -a)).length<=((ix ms k).To -a -((ix ms k).aP -a)).toNat:=by unfold part;exact List.length_take_le ..
   omega
  ·refine Xe4 ?_
   exact w1 _ ⟨s3,rfl,h3⟩
 ·have w2:=w2 hk
  refine MP (x:=⟨a,a+l.length⟩) hs' (aJ w2 fun kn hq=>?_)
  refine Xe4 ?_
  exact⟨_,Sub.refl _,hq _ (agE kn)⟩
def BX{s:ae}{l:List UInt8}{Q:List AV->ae->Prop}(hl:l.length<=2147483647):ok (kO ⟨l.length,[],fun _=>none⟩ 0 l) (fun r=>∀B s',fg s s' B r.1->Q [.ref B 0] s')->FN prog 13 [.sl false 1 l.length (flat l)] s Q:=by
 intro hh
 refine FN.j8 (FO BI rfl rfl ?_)
 rw[ru]
 refine wu AT fun B s' h'=>?_
 refine Xe4 ?_
 refine⟨fun h=>h.elim,fun _=>vQ h' (show(l.length:Int)<=2147483647 by omega) (aJ hh fun r hq s3 h3=>?_)⟩
 refine Xe4 ?_
 exact⟨s3,Sub.refl _,hq B s3 h3⟩
def tQ:IC:=dec 0x27a3b5d2c2e76ef05141fd12a42afcbfa684037ebc4a550c4b5b2235492295a01ea565d8c49df76bc034de56b03be151b35a8ea5aa2920150b58330d2f0117df42b1c8a9561715e1df190dcb0ef3f267d805f96403957186e4ddc9d0396e496891bf4f9bb1817d198f67242ab12df80d978dc6409db341b6d18dc22dd2992bbf064b5a1758b1a7fa0f164b3085f75baffec9b593710ebd5a419c1658227756761f76872cae4d00dc3f4823d57a0cccd310aea8a18bd4aec6eca2d80e86e59b7cea1acc5ba31fa1bd0412c61e509279092532b8a4f3353ba42ea4fb67a76e73b43773b2689094ecc00de48eb77c96925cd65a76fe662381e2fa6c005416052aee4276798d0f3210b
def Dn:ey prog 71 85 [⟨6,true,none⟩,⟨7,true,none⟩] tQ=true:=By
def Ma(m:J7)(at_ n:Int):List UInt8->Option (List UInt8⊕List UInt8):=fun out=>
 if decide ((out.length:Int)<n)then
  a8 ((m (aC ((aC (at_+out.length)).tdiv 4096))).isSome=true)<|
  some (.inl (out++(((m (aC ((aC (at_+out.length)).tdiv 4096))).getD []).drop ((aC (at_+out.length)).tmod 4096).toNat).take (min (4096 -((aC (at_+out.length)).tmod 4096).toNat) (n -out.length).toNat)))
 else some (.inr out)
def jy(g:iS)(at_ most:Int):Option (List UInt8×Bool):=
 if(decide (at_<0)||decide (at_>g.total))||decide (most<0)then some ([],false)
 else
  aZ (lD g.known at_) fun u=>
  a8 (at_<=u/\u<=g.total)<|
  aZ (iter (Ma g.sG at_ (min most (u -at_))) []) fun out=>
  some (out,aC (at_+min most (u -at_))==g.total)
theorem UO{es:List (AV×AV)}{n:Int}{b:Nat}(h:KI es)(e:fS (.int .i64 n) es=some (.arr b 0 4096 4096)):oe (.int .i64) (.sl false 1 0 []) false (.int .i64 n) (some (.map es))=.prt True (.arr b 0 4096 4096):=by
 show Ks false (ft (.int .i64) (.int .i64 n)=true/\kV (.int .i64) es=true) (uc (.sl false 1 0 []) false (fS (.int .i64 n) es))=_
 rw[e,h.keys]
 show PR.prt (true=true/\true=true) _=_
 simp[uc,EU,view]
def Cs{s0 s:ae}{B:Nat}{g:iS}{a most:Int}{Q:List AV->ae->Prop}(h:fg s0 s B g)(ht:g.total<=2147483647):ok (jy g a most) (fun x=>(x.1=[]->x.2=false->Q [.sl true 1 0 [],.bool false] s)/\(x.1=[]->∀b,s b=none->Q [.arr b 0 0 0,.bool x.2] (s.set b (.cells [])))/\∀r s',Sub s s'->fZ s' r x.1->Q [jj r x.1.length,.bool x.2] (jc s' r x.1))->FN prog 71 [.ref B 0,.int .i64 a,.int .i64 most] s Q:=by
 intro hh
 refine FN.j8 (FO Dn rfl rfl ?_)
 rw[tQ]
 refine Xf9 ?_
 refine Xf6 ?_
 refine nR h ?_
 obtain⟨cs,hs,C7⟩:=h.setAt
 obtain⟨q1,q2,M,es,q3,q4,q5,q6,q7,q8⟩:=id h
 revert hh
 rw[jy]
 refine Xf4 q3 ?_
 rintro⟨w1,w2⟩
 refine⟨fun hc=>⟨s,Sub.refl s,(w1 hc).1 trivial trivial⟩,fun hc=>?_⟩
 obtain⟨u,hu,⟨hu1,hu2⟩,hh⟩:=w2 hc
 clear w1 w2
 have hc1:0<=a/\a<=g.total/\0<=most:=z_
 refine AF hs ⟨u,hu,?_⟩
 refine Xf4 q3 ?_
 rw[ao (n:=u -a) AT AT]
 generalize hn:min most (u -a)=n at hh⊢
 have hn0:0<=n/\a+n<=g.total:=AT
 revert hh
 refine fun hh=>⟨Int.le_refl 0,hn0.1,i_,fun b hb=>?_⟩
 by_cases hz:n=0
 ·subst hz
  revert hh
  refine lN (fun out τ=>out=[]/\τ=⟨[(0,.ref B 0),(1,.int .i64 a),(8,.int .i64 0),(9,.arr b 0 0 0)],[],s.set b (.cells [])⟩) ⟨rfl,rfl⟩ ?_
  rintro J out τ ⟨rfl,rfl⟩
  have nB:B≠b:=fun e=>by rw[<-e,q3]at hb;cases hb
  have p3:(s.set b (.cells [])) B=_:=(af nB).trans q3
  rw[Ma]
  refine Xf4 p3 ?_
  rintro⟨_,w2⟩
  exact⟨fun h=>Xb5,fun h=>⟨_,Sub.refl _,(w2 h).2.1 trivial b hb⟩⟩
 revert hh
 refine lN (fun out τ=>(out.length:Int)<=n/\∃(s':ae)(r:c5),τ=⟨[(0,.ref B 0),(1,.int .i64 a),(8,.int .i64 n),(9,jj r out.length)],[],jc s' r out⟩/\Sub s s'/\fZ s' r out) ⟨C_,s,some (b,n.toNat,flat (List.replicate n.toNat (0:UInt8))),rfl,Sub.refl s,(show fZ s (some (b,n.toNat,flat (List.replicate n.toNat (0:UInt8)))) ([]:List UInt8) from⟨hb,AT,BY,by show((flat ([]:List UInt8))++flat (List.replicate n.toNat (0:UInt8))).length=_;rw[qP,List.nil_append,au,List.length_replicate],aF _⟩)⟩ ?_
 rintro J out τ ⟨hl,s',r,rfl,fX,hok⟩
 have p3:=jO hok (fX _ _ q3)
 have p5:=jO hok (fX _ _ q5)
 rw[Ma]
 refine Xh8 p3 p5 ?_
 rintro⟨w1,w2⟩
 refine⟨fun hc=>⟨B_,B_,?_⟩,fun hc=>?_⟩
 ·obtain⟨Ua,w1⟩:=w1 hc
  have hc':(out.length:Int)<n:=I_
  have wA:aC (a+out.length)=a+out.length:=ao AT AT
  rw[wA]at Ua w1⊢
  have hm:0<=(a+(out.length:Int)).tmod 4096:=Int.tmod_nonneg _ AT
  have hm2:(a+(out.length:Int)).tmod 4096<4096:=Int.tmod_lt_of_pos _ B_
  have q7':=q7 (aC ((a+(out.length:Int)).tdiv 4096))
  cases hmk:g.sG (aC ((a+(out.length:Int)).tdiv 4096))with
  |none=>rw[hmk]at Ua;cases Ua
  |some c=>
   rw[hmk]at q7' w1
   obtain⟨c1,b',c2,c3,c4⟩:=q7'
   rw[UO q6 c2]
   refine Xf6 ?_
   rw[ao (n:=n -out.length) AT AT]
   generalize hT:(a+(out.length:Int)).tmod 4096=T at hm hm2 w1⊢
   refine⟨⟨hm,AT,AT⟩,⟨AT,AT,AT⟩,?_⟩
   have hnb:jc s' r out b'=some (.cells (flat c)):=jO hok (fX _ _ c4)
   have hf:(flat c).length=4096:=by rw[au,c1];rfl
   have e1:(min ((4096 -T).toNat:Int) (n -out.length)).toNat=min (4096 -T.toNat) (n -out.length).toNat:=AT
   rw[e1,Cw AT,uy hnb AT]
   have aax:=lH c 1 T.toNat (min (4096 -T.toNat) (n -out.length).toNat) rfl
   rw[Nat.mul_one]at aax
   rw[aax,aF]
   have hxl:((c.drop T.toNat).take (min (4096 -T.toNat) (n -out.length).toNat)).length=min (4096 -T.toNat) (n -out.length).toNat:=Xa3
   have agm:=Kd (E:=?_) (d:=?_) (K:=?_) (by':=1) (z:=(0:UInt8)) (x:=(c.drop T.toNat).take (min (4096 -T.toNat) (n -out.length).toNat)) (s:=s') (r:=r) (l:=out) (sz:=1) ?_ hok rfl (by rw[hxl];omega) (by rw[hxl];unfold room;omega) ?_
   ·rw[hxl]at agm
    exact agm
   ·rfl
   ·intro s2 r' g1 g2
    refine Xf6 ?_
    refine w1 _ ⟨?_,s2,r',rfl,fun b o hb=>g1 b o (fX b o hb),g2⟩
    have akJ:(List.take (min (4096 -T.toNat) (n -out.length).toNat) (List.drop T.toNat ((some c).getD []))).length=min (4096 -T.toNat) (n -out.length).toNat:=hxl
    rw[akJ]
    omega
 ·have w2:=(w2 hc).2.2 r s' fX hok
  exact⟨_,Sub.refl _,w2⟩
def YW{G:Gh}{w:World}{s s2:ae}{n sz:Nat}{cs:List AV}{x:Bool}{v:Value}{r:List AV}(hg:cq G w)(hs:ba G w s)(hl2:cs.length=n*sz)(hvw:views cs=cs)
 (h:(∃b cap sp,r=[.arr b 0 n cap,.bool x]/\s b=some (.cells (cs++sp))/\0<cap/\n<=cap/\(cs++sp).length=cap*sz/\Sub s2 (s.del b))\/(n=0/\cs=[]/\Sub s2 s/\∃b,r=[.arr b 0 0 0,.bool x]))(hr:nt G w r v):
 ∃G2,ma G G2/\cq G2 w/\ba G2 w s2/\nt G2 w [.sl true sz n cs,.bool x] v:=by
 have two:∀{a:AV}{v:Value},nt G w [a,.bool x] v->∃y0:Value,v=.tuple #[y0,.bool x]/\VR w G.R a y0/\dI G w (.res 0) a y0:=by
  intro a v hr
  obtain⟨ys,rfl,hz,hc⟩:=hr
  have h2:ys.size=2:=hz
  have e0:=hc 0 a ys[0] rfl BY
  have e1:=hc 1 (.bool x) ys[1] rfl BY
  have e2:=VR.gF e1.1
  refine⟨ys[0],?_,e0.1,e0.2⟩
  congr 1
  apply Array.ext
  ·simp[h2]
  ·intro i h3 h4
   match i,h3 with
   |0,_=>rfl
   |1,_=>exact e2
   |i+2,h3=>omega
 have fin:∀{G2:Gh}{y0:Value},nt G2 w [.sl true sz n cs] y0->nt G2 w [.sl true sz n cs,.bool x] (.tuple #[y0,.bool x]):=by
  intro G2 y0 h
  refine⟨_,rfl,rfl,fun j a y hj hy=>?_⟩
  match j,hj with
  |0,hj=>cases hj;cases hy;exact h
  |1,hj=>cases hj;cases hy;exact⟨.bool _,trivial⟩
 rcases h with⟨b,cap,sp,rfl,hb,hc,hn,hl,fX⟩|⟨rfl,rfl,fX,b,rfl⟩
 ·obtain⟨y0,rfl,k0,k0'⟩:=two hr
  obtain⟨G2,k1,k2,k3,k4⟩:=PU hs hg hb hc hn hl hl2 hvw ⟨k0,k0'⟩
  exact⟨G2,k1,k2,k3.sub fX,fin k4⟩
 ·obtain⟨y0,rfl,k0,k0'⟩:=two hr
  exact⟨G,ma.refl G,hg,hs.sub fX,fin (LX ⟨k0,k0'⟩)⟩
def Ct{s0 s:ae}{B:Nat}{g:iS}{a most:Int}{r:List UInt8×Bool}(h:fg s0 s B g)(ht:g.total<=2147483647)(hr:jy g a most=some r):FE prog 71 [.ref B 0,.int .i64 a,.int .i64 most] s [.sl true 1 r.1.length (flat r.1),.bool r.2] s:=by
 refine FN.conv (Cs (Q:=fun rs t=>rs=[.sl true 1 r.1.length (flat r.1),.bool r.2]/\t=s\/((∃b cap sp,rs=[.arr b 0 r.1.length cap,.bool r.2]/\t b=some (.cells (flat r.1++sp))/\0<cap/\r.1.length<=cap/\(flat r.1++sp).length=cap*1/\Sub s (t.del b))\/(r.1.length=0/\flat r.1=[]/\Sub s t/\∃b,rs=[.arr b 0 0 0,.bool r.2]))) h ht ⟨r,hr,fun e1 e2=>?_,fun e1 b hb=>?_,fun r' s' h1 h2=>?_⟩) fun rs t hq G w v hg hs hv=>?_
 ·rw[e1,e2];exact .inl ⟨rfl,rfl⟩
 ·rw[e1];exact .inr (.inr ⟨rfl,rfl,(Sub.refl s).set hb,b,rfl⟩)
 ·cases r' with
  |none=>
   have e:=h2
   rw[e];exact .inr (.inr ⟨rfl,rfl,h1,0,rfl⟩)
  |some x=>
   obtain⟨b,cap,sp⟩:=x
   obtain⟨k1,k2,k3,k4,k5⟩:=h2
   refine .inr (.inl ⟨b,cap,sp,rfl,aY,k2,k3,k4,?_⟩)
   show Sub s ((s'.set b _).del b)
   rw[iX k1];exact h1
 ·rcases hq with⟨rfl,rfl⟩|hq
  ·exact⟨_,_,G,⟨rfl,rfl⟩,ma.refl G,hg,hs,hv⟩
  ·obtain⟨G2,k1,k2,k3,k4⟩:=YW hg hs (by rw[au];rfl) (aF _) hq hv
   exact⟨_,_,G2,⟨rfl,rfl⟩,k1,k2,k3,k4⟩
def we:IC:=dec 0x13fa65ed48ae291c64cf6dd7a030fc83adf1008c2069d5e55c95bfa8e0ed2633b953df6d0334bb0a5216a01a811b7ad2222d0efc1fda60bc28ba97c88b7e405d499eb9c05702db3f664fa1d2a72ac0aac87bda6f5318e2ab07b6ec9ed16f0f3fbd510c124dce47322c9d59de5bf3232ff1b3e5b3bbfbaebdd5cba9953b1df68ad02703030e4da8c279bb137fcac825c57571aa1679eec24a9753b3c43afb645fa2fad7cf4702d7bbb9ef76636d5896f9938a8d891f14a2246f9ff2a843f432df715dca86cd2206f1bdb168a826f30ac48098c52ecd1761e0f6da359207ca2eee27172b2b9dbc428a1942b4efb38699ae3a3a34c16f30a34e914678ee3a5fec82c2de30222c02e7c5bd7069e809b6f40084ed
def Fk:ey prog 38 56 [⟨4,true,none⟩,⟨5,false,some (6,true)⟩,⟨6,true,none⟩,⟨7,true,none⟩] we=true:=By
abbrev OBJ(x:aA):AV:=.agg [.int .i64 x.V.Kind,.int .i64 x.V.N,.str x.V.S.b,.sl false 4 x.V.L.length (flat x.V.L),.bool x.Stream,.str x.Data.b]
def Jj(g:iS)(a:Int):Int->Option (Int⊕(Int×aA×Int×Int)):=fun most=>
 aZ (jy g a most) fun x=>
 aZ (eV x.1 0 x.2) fun y=>
 if(y.2.2.2==6)&&((x.1.length:Int)==most)then some (.inl (aC (most*2)))
 else if y.2.2.2==6 then aZ (lD g.known (max 0 a)) fun u=>some (.inr (0,y.2.1,min g.total u,y.2.2.2))
 else if y.2.2.2 !=0 then some (.inr (0,y.2.1,0,18))
 else some (.inr (y.1,y.2.1,0,y.2.2.2))
def kT(g:iS)(a:Int):Option (Int×aA×Int×Int):=iter (Jj g a) 4096
def Fb{s0 s:ae}{B:Nat}{g:iS}{a:Int}{Q:List AV->ae->Prop}(h:fg s0 s B g)(ht:g.total<=2147483647):ok (kT g a) (fun r=>Q [.int .i64 r.1,OBJ r.2.1,.int .i64 r.2.2.1,.int .i64 r.2.2.2] s)->FN prog 38 [.ref B 0,.int .i64 a] s Q:=by
 intro hh
 refine FN.j8 (FO Fk rfl rfl ?_)
 rw[we]
 refine Xf9 ?_
 revert hh
 rw[kT]
 refine Xe4 ?_
 refine lN (fun most τ=>τ=⟨[(0,.ref B 0),(1,.int .i64 a),(5,.loc [.int .i64 0,.int .i64 0,.str [],.sl true 4 0 [],.bool false,.str []]),(8,.int .i64 most)],[],s⟩) rfl ?_
 rintro J most τ rfl
 rw[Jj]
 refine Xe4 ?_
 rintro⟨x,hx,hh⟩
 refine FE.app (Ct h ht hx) ?_
 refine⟨rfl,?_⟩
 refine Xe4 ?_
 obtain⟨y,hy,hh⟩:=hh
 refine FE.app (CX hy) ?_
 refine⟨rfl,?_⟩
 revert hh
 refine Xe4 ?_
 rintro⟨c1,c2⟩
 refine⟨fun hc=>c1 hc _ rfl,fun hc=>⟨fun hd=>?_,fun hd=>⟨fun he=>⟨s,Sub.refl s,((c2 hc).2 hd).1 he⟩,fun he=>⟨s,Sub.refl s,((c2 hc).2 hd).2 he⟩⟩⟩⟩
 obtain⟨u,hu,hq⟩:=(c2 hc).1 hd
 refine⟨[.int .i64 (min g.total u)],rfl,sD h ⟨u,hu,rfl,rfl⟩,?_⟩
 refine Xe4 ?_
 exact⟨s,Sub.refl s,hq⟩
end Go.AB
end
section
set_option maxRecDepth 16000
namespace Go.AB
open Go
open Go.Proofs.Tryz (prog)
attribute[-go_sem] bX cP bD bV
structure dn where
 da:(List Int)
 pN:Int
instance:aO dn:=⟨2,fun x=>[.sl false 1 x.da.length (flat x.da),.int .i64 x.pN],(dn.mk [] 0),B_,fun _=>rfl,fun _=>rfl⟩
def oT(t_0:dn)(n_1:Int):Option (Int×Bool):=
 a8 ((!((decide (n_1<1))||(decide (n_1>(t_0.da.length:Int)))))=true->0<=aC (n_1 -1)/\aC (n_1 -1)<t_0.da.length)<|
 if((decide (n_1<1))||(decide (n_1>(t_0.da.length:Int))))||(decide (ix t_0.da (aC (n_1 -1))<0))then
  some (0,false)
 else
  a8 (0<=aC (n_1 -1)/\aC (n_1 -1)<t_0.da.length)<|
  some (ix t_0.da (aC (n_1 -1)),true)
def E4{t_0 n_1}:FF 36 [.agg [.sl false 1 t_0.da.length (flat t_0.da),.int .i64 t_0.pN],.int .i64 n_1] (oT t_0 n_1) fun r=>[.int .i64 r.1,.bool r.2]:=by
 intro s Q
 exact FC 30 [⟨4,true,none⟩,⟨5,true,none⟩] 0x9663bcea1b12f34814ac4175d269e5aaa321e437d630914f767b64ad2d72b2d89f99ed8c428938c642816358c2d276b586172bad37d406731e7cc6f5048dfc4d073bd55dbdb27c52aa433958eb0c510a93bbf8572eeb76bb300db200c5f90981dc oT.eq_1
def E3{t_0 n_1}{s:ae}{r:Int×Bool}(h:oT t_0 n_1=some r):FE prog 36 [.agg [.sl false 1 t_0.da.length (flat t_0.da),.int .i64 t_0.pN],.int .i64 n_1] s [.int .i64 r.1,.bool r.2] s:=E4 ⟨r,h,rfl,rfl⟩
end Go.AB
end
section
set_option maxRecDepth 16000
namespace Go.AB
open Go
open Go.Proofs.Tryz (prog)
attribute[-go_sem] Nat.add_zero mi cy
def Df:IC:=dec 0xd8c69249fa4a0fef3a995ef97d2d0af4f1b6e91dbfd5c2bd20e68824473a
def NM:ey prog 39 12 [⟨2,true,none⟩] Df=true:=By
def yy:IC:=dec 0x116198e47d8eee19fb57feef6c64665940a4c4c64aebd14ca3e5a534d213cc00473a
def IY:ey prog 31 10 [⟨2,true,none⟩] yy=true:=By
def AZ:IC:=dec 0x8a2ab5215a44ce5602d8860d5e30bd490e9fe69bf89a4554064bdae435ae6619839a45c60accf12332a34caa686e07c3f8320fd97fa4c71c3250db9a91ad28402d9003dfb251eb37e00cf729c
def Lp:ey prog 10 20 [⟨4,false,some (6,true)⟩,⟨5,true,none⟩,⟨6,true,none⟩] AZ=true:=By
def A1:IC:=dec 0x5489c8e5bed1183afea041f150eeb0e2860acb8577b71ec3ac27ec54c04ff410aa2ce8b228a0961dc
def Lq:ey prog 9 13 [⟨4,true,none⟩] A1=true:=By
def yx:IC:=dec 0x614aa674874176f74b939e94c7b40b615797b605579d20ab2790f0f980cd26a7dfa9596d946b44ebd1777659698309ab0d68e0a2e8bc372002b6300b6b0db5d9cd04ee9f9f4285f13dd24a58fc3d2a142f220da2cbc3383cefcfe30ecc0dc8daeed5285eab984218c042f35b55c4f2c7ae2b8b6b7928501a51b2b69a87cd9c0dffec2f8473f138cd834e0388fea43ad354e36e4c9cbd4489f0b56a2a8fcaab397250aefe9c5727e9e7ba227f77bbad6cf6fbe62c837ef436aa14ab133c6a34e4d010b50a741c232aa0b39bf57f04d8a9dd7cc0986697619aaa511e9815c4e0636681afb6c300a97013a778a06376d1fc990a71f38229b20d4bd5d74b002d9003dfb251eb37e00cf729c
def IW:ey prog 35 49 [⟨4,false,some (6,true)⟩,⟨5,true,none⟩,⟨6,true,none⟩] yx=true:=By
def zn(s:ae)(F:Nat)(root count:Int)(c:Nat)(fC:List AV):Prop:=s F=some (.cells [.int .i64 root,.int .i64 count,.fn c [] fC])
def CV{s:ae}{F c:Nat}{root count:Int}{fC:List AV}{Q:List AV->ae->Prop}(h:zn s F root count c fC)(hq:Q [.bool true] s):FN prog 39 [.ref F 0] s Q:=by
 have h:s F=some (.cells [.int .i64 root,.int .i64 count,.fn c [] fC]):=h
 refine FN.j8 (FO NM rfl rfl ?_)
 rw[Df]
 refine Xf9 ?_
 refine Xg2 h ?_
 exact⟨s,Sub.refl s,hq⟩
def yd{s:ae}{F c:Nat}{root count:Int}{fC:List AV}{Q:List AV->ae->Prop}(h:zn s F root count c fC)(hq:Q [.int .i64 root] s):FN prog 31 [.ref F 0] s Q:=by
 refine FN.j8 (FO IY rfl rfl ?_)
 rw[yy]
 refine Xf9 ?_
 refine Xe4 ?_
 refine CV h ?_
 have h:s F=some (.cells [.int .i64 root,.int .i64 count,.fn c [] fC]):=h
 refine Xg2 h ?_
 exact⟨fun h=>h.elim,fun _=>⟨s,Sub.refl s,hq⟩⟩
abbrev TAB(t:dn):List AV:=[.sl false 1 t.da.length (flat t.da),.int .i64 t.pN]
def ZK(s:ae)(F B:Nat)(t:dn):Prop:=∃tb sb,zn s F t.pN t.da.length 35 [.ref tb 0,.ref sb 0]/\s tb=some (.cells (TAB t))/\s sb=some (.cells [.ref B 0])
def AR{s:ae}{B:Nat}{t:dn}{Q:List AV->ae->Prop}(hq:∀F s',Sub s s'->ZK s' F B t->Q [.ref F 0] s'):FN prog 9 [.ref B 0,.agg (TAB t)] s Q:=by
 refine FN.j8 (FO Lq rfl rfl ?_)
 rw[A1]
 refine Xf9 ?_
 refine Xe4 ?_
 intro sb hsb tb htb F hF
 have n1:=htb
 rw[di]at n1
 have n2:=hF
 rw[di]at n2
 have n3:=n2.2
 rw[di]at n3
 exact⟨_,Sub.refl _,hq F _ ((((Sub.refl s).set hsb).set htb).set hF) ⟨tb,sb,cE ..,by rw[af (Ne.symm n2.1),cE],by rw[af (Ne.symm n3.1),af (Ne.symm n1.1),cE]⟩⟩
def wC:aA:=⟨⟨0,0,⟨[]⟩,[]⟩,false,⟨[]⟩⟩
def mf(g:iS)(t:dn)(n:Int):Option (aA×Int×Int):=
 aZ (oT t n) fun p=>
 if !p.2 then some (wC,0,0)
 else if decide (p.1>=g.total)then some (wC,0,18)
 else aZ (kT g p.1) fun r=>
 if r.2.2.2 !=0 then some (wC,r.2.2.1,r.2.2.2)
 else if r.1 !=n then some (wC,0,18)
 else some (r.2.1,0,0)
def Iy{s0 s:ae}{B tb sb:Nat}{g:iS}{t:dn}{n:Int}{Q:List AV->ae->Prop}(h:fg s0 s B g)(ht:g.total<=2147483647)(h1:s tb=some (.cells (TAB t)))(h2:s sb=some (.cells [.ref B 0])):
 ok (mf g t n) (fun r=>Q [OBJ r.1,.int .i64 r.2.1,.int .i64 r.2.2] s)->FN prog 35 [.int .i64 n,.ref tb 0,.ref sb 0] s Q:=by
 intro hh
 refine FN.j8 (FO IW rfl rfl ?_)
 rw[yx]
 refine Xf9 ?_
 revert hh
 rw[mf]
 refine Xg2 h1 ?_
 rintro⟨p,hp,c1,c2⟩
 refine FE.app (E3 hp) ?_
 refine⟨rfl,?_⟩
 refine Xg2 h2 ?_
 refine⟨fun hc=>⟨s,Sub.refl s,c1 hc⟩,fun hc=>?_⟩
 have c2:=c2 hc
 refine Bl h ?_
 refine Xg2 h2 ?_
 refine⟨fun hd=>⟨s,Sub.refl s,c2.1 hd⟩,fun hd=>?_⟩
 refine Fb h ht (aJ (c2.2 hd) fun r hr=>?_)
 revert hr
 refine Xe4 ?_
 exact fun⟨d1,d2⟩=>⟨fun e=>⟨s,Sub.refl s,d1 e⟩,fun e=>⟨fun f=>⟨s,Sub.refl s,(d2 e).1 f⟩,fun f=>⟨s,Sub.refl s,(d2 e).2 f⟩⟩⟩
def AQ{s:ae}{F c:Nat}{root count n:Int}{fC:List AV}{Q:List AV->ae->Prop}{r:aA×Int×Int}(h:zn s F root count c fC)(hok:(sQ prog c=true)=True)
 (hv:cL (fun x=>match x with|.c a=>a|_=>.undef) (fC.map .c)=some fC)(hc:FE prog c ([.int .i64 n]++fC) s [OBJ r.1,.int .i64 r.2.1,.int .i64 r.2.2] s)(hq:Q [OBJ r.1,.int .i64 r.2.1,.int .i64 r.2.2] s):FN prog 10 [.ref F 0,.int .i64 n] s Q:=by
 refine FN.j8 (FO Lp rfl rfl ?_)
 rw[AZ]
 refine Xf9 ?_
 refine Xe4 ?_
 refine CV h ?_
 have h:s F=some (.cells [.int .i64 root,.int .i64 count,.fn c [] fC]):=h
 refine Xf0 h hok ?_
 refine⟨fun h=>h.elim,fun _=>FE.app hc ?_⟩
 refine⟨rfl,?_⟩
 refine Xe4 ?_
 exact⟨s,Sub.refl s,hq⟩
structure nS where
 mK:(List aA)
 pN:Int
instance:aO nS:=⟨2,fun x=>[.sl false 6 x.mK.length (flat x.mK),.int .i64 x.pN],(nS.mk [] 0),B_,fun _=>rfl,fun _=>rfl⟩
def De:IC:=dec 0x3631a48fe1bbf97ca9c02bf635f475617f111125fcf69d7c81a9d8dd58aa26f4c821a175b
def NL:ey prog 30 11 [⟨2,true,none⟩] De=true:=By
def A2:IC:=dec 0x2e9b51cda3c3fdad75b1b7aa932984f7fa3c746bc4324abf208aa5ddf3e22113338e5ffae3885983fb15475aa459820321f82cffe2248800c3ea7109195eded93e29550913a00c8aa0b949de00bea7f2c0128402d9003dfb251eb37e00cf543c
def Ls:ey prog 67 22 [⟨3,false,some (6,true)⟩,⟨4,true,none⟩,⟨5,true,none⟩] A2=true:=By
abbrev DOC(d:nS):List AV:=[.sl false 6 d.mK.length (flat d.mK),.int .i64 d.pN]
def Nr{s:ae}{d:nS}{Q:List AV->ae->Prop}(hq:∀F db s',Sub s s'->zn s' F d.pN d.mK.length 67 [.ref db 0]->s' db=some (.cells (DOC d))->Q [.ref F 0] s'):FN prog 30 [.agg (DOC d)] s Q:=by
 refine FN.j8 (FO NL rfl rfl ?_)
 rw[De]
 refine Xf9 ?_
 refine Xe4 ?_
 intro db hdb F hF
 have n2:=hF
 rw[di]at n2
 exact⟨_,Sub.refl _,hq F db _ (((Sub.refl s).set hdb).set hF) (cE ..) (by rw[af (Ne.symm n2.1),cE])⟩
def CU(d:nS)(n:Int):Option (aA×Int×Int):=if decide (n<1)||decide (n>(d.mK.length:Int))then some (wC,0,0)else some (ix d.mK (n -1),0,0)
def KT{s:ae}{d:nS}{db:Nat}{n:Int}{Q:List AV->ae->Prop}(hl:d.mK.length<=2147483647)(h:s db=some (.cells (DOC d))):ok (CU d n) (fun r=>Q [OBJ r.1,.int .i64 r.2.1,.int .i64 r.2.2] s)->FN prog 67 [.int .i64 n,.ref db 0] s Q:=by
 intro hh
 refine FN.j8 (FO Ls rfl rfl ?_)
 rw[A2]
 refine Xf9 ?_
 revert hh
 rw[CU]
 refine Xg2 h ?_
 rintro⟨c1,c2⟩
 refine⟨fun hc=>⟨s,Sub.refl s,c1 hc⟩,fun hc=>?_⟩
 have hn:=z_
 have c2:=c2 hc
 have hw:aC (n -1)=n -1:=ao AT AT
 rw[hw]
 exact⟨AT,s,Sub.refl s,c2⟩
theorem fg.sub{s0 s s':ae}{B:Nat}{g:iS}(h:fg s0 s B g)(hs:Sub s s'):fg s0 s' B g:=by
 obtain⟨h1,h2,M,es,h3,h4,h5,h6,h7,h8⟩:=h
 exact⟨fun b o hb=>hs b o (h1 b o hb),h2,M,es,hs _ _ h3,h4,hs _ _ h5,h6,fun k=>(h7 k).mono fun b l hb=>hs b _ hb,h8⟩
structure td where
 B:Nat
 VH:Int
 get:Int->Option (aA×Int×Int)
def nQ(s:ae)(f:td):Prop:=∀s',Sub s s'->FE prog 31 [.ref f.B 0] s' [.int .i64 f.VH] s'/\∀n r,f.get n=some r->FE prog 10 [.ref f.B 0,.int .i64 n] s' [OBJ r.1,.int .i64 r.2.1,.int .i64 r.2.2] s'
def nQ.mono{s s':ae}{f:td}(h:nQ s f)(hs:Sub s s'):nQ s' f:=fun s2 h2=>h s2 fun b o hb=>h2 b o (hs b o hb)
def oz(f:td)(n:Int):Option (aA×Int×Int):=f.get n
def HV{f:td}{n:Int}{s:ae}{r:aA×Int×Int}(hv:nQ s f)(h:oz f n=some r):FE prog 10 [.ref f.B 0,.int .i64 n] s [OBJ r.1,.int .i64 r.2.1,.int .i64 r.2.2] s:=(hv s (Sub.refl s)).2 n r h
def abK(B:Nat)(d:nS):td:=⟨B,d.pN,CU d⟩
def Xd{s:ae}{F db:Nat}{d:nS}(hl:d.mK.length<=2147483647)(h:zn s F d.pN d.mK.length 67 [.ref db 0])(hd:s db=some (.cells (DOC d))):nQ s (abK F d):=by
 intro s' hs
 have h':=hs _ _ h
 refine⟨yd h' ⟨rfl,rfl⟩,fun n r hr=>?_⟩
 exact AQ h' (eq_true D_) rfl (KT hl (hs _ _ hd) ⟨r,hr,rfl,rfl⟩) ⟨rfl,rfl⟩
def LM(B:Nat)(g:iS)(t:dn):td:=⟨B,t.pN,mf g t⟩
def PQ{s0 s:ae}{F B:Nat}{g:iS}{t:dn}(h:fg s0 s B g)(ht:g.total<=2147483647)(hN:ZK s F B t):nQ s (LM F g t):=by
 obtain⟨tb,sb,hF,htb,hsb⟩:=hN
 intro s' hs
 have h':=hs _ _ hF
 refine⟨yd h' ⟨rfl,rfl⟩,fun n r hr=>?_⟩
 exact AQ h' (eq_true D_) rfl (Iy (h.sub hs) ht (hs _ _ htb) (hs _ _ hsb) ⟨r,hr,rfl,rfl⟩) ⟨rfl,rfl⟩
end Go.AB
end
section
set_option maxRecDepth 16000
namespace Go.AB
open Go
open Go.Proofs.Tryz (prog)
attribute[-go_sem] bX cP bD bV
def eK:Nat->aa->aa->Option (Int)
 |0,_,_=>none
 |fuel+1,a_0,b_1=>
  if(decide (a_0.Kind<b_1.Kind))||((a_0.Kind==b_1.Kind)&&((decide (a_0.N<b_1.N))||((a_0.N==b_1.N)&&(Op.bytesLess a_0.S.b b_1.S.b))))then
   some (-1)
  else
   if((a_0.Kind !=b_1.Kind)||(a_0.N !=b_1.N))||(!(a_0.S.b==b_1.S.b))then
    some 1
   else
    zj (
     nV (
      iter (fun(k4:Int)=>
       if(decide (k4<(a_0.L.length:Int)))&&(decide (k4<(b_1.L.length:Int)))then
        a8 (0<=k4/\k4<a_0.L.length)<|
        a8 (0<=k4/\k4<b_1.L.length)<|
        aZ (eK fuel (ix a_0.L k4) (ix b_1.L k4)) fun r8=>
        if r8 !=0 then
         some (.inr (.inr r8))
        else
         some (.inl (aC (k4+1)))
       else
        some (.inr (.inl ()))) 0) (fun(_:Unit)=>
      some (.inl ()))
     (fun(t7:Int)=>some (.inr t7))) (fun(_:Unit)=>
     if decide ((a_0.L.length:Int)<(b_1.L.length:Int))then
      some (-1)
     else
      if decide ((a_0.L.length:Int)>(b_1.L.length:Int))then
       some 1
      else
       some 0)
    (fun(t3:Int)=>some t3)
def Am{fuel:Nat}:∀{a_0:aa}{b_1:aa}{s:ae}{Q:List AV->ae->Prop},ok (eK fuel a_0 b_1) (fun r=>Q [.int .i64 r] s)->FN prog 74 [.agg [.int .i64 a_0.Kind,.int .i64 a_0.N,.str a_0.S.b,.sl false 4 a_0.L.length (flat a_0.L)],.agg [.int .i64 b_1.Kind,.int .i64 b_1.N,.str b_1.S.b,.sl false 4 b_1.L.length (flat b_1.L)]] s Q:=by
 induction fuel with
 |zero=>intros;rename_i h;rw[eK]at h;exact absurd h Xd9
 |succ fuel ih=>
 have acn:∀{a_0:aa}{b_1:aa}{s:ae}{r:Int},eK fuel a_0 b_1=some r->FE prog 74 [.agg [.int .i64 a_0.Kind,.int .i64 a_0.N,.str a_0.S.b,.sl false 4 a_0.L.length (flat a_0.L)],.agg [.int .i64 b_1.Kind,.int .i64 b_1.N,.str b_1.S.b,.sl false 4 b_1.L.length (flat b_1.L)]] s [.int .i64 r] s:=fun h=>ih ⟨_,h,rfl,rfl⟩
 intro a_0 b_1 s Q
 refine FR 103 [⟨4,true,none⟩] 0x3092e9c81f0e399f7e88fe50c3f33d15b7646189eda1a6e32833c8b51408fa3e19d689d1c1e50628eb91cd08469607c12855053dfd37bd364fb9f62b37589d0f041b1cd565547992c667b3ccf03c19b6235211960e749f016d8ec6a590fd05f8ff9359b633b6146f7fd620dbbff60e0693e3c440d4522cf4df0bc2ddd8fa960a294bb449aa9eaaf65cbfa9932d16a60adf6a7d81785036d4358a8ce5dada940668829c851140c6e681043df30d69936f553840f05caf225a6a30333139325d314c5bf7de7f37c7bc33416dd4ad77e081d8508b1cc61872328f774bf7dfa084f25e956b4bad3b1d28b1c44dbcac4e6cbd072e740d14518ba7684c56b95ce07eb25131cea86f36d7eeaca819cf57cb7d1328fd3f146490edc733392cc0c3c1526293167387a1252c5fa9f737ef65f3ece9be4e92c1df14a659baac65e0f15ad4e2e97867dbaa15252380bad466600b263df7ba1c29653137d9d7600cfe965a03981dc eK.eq_2 ?_
 repeat'(first
  |(with_reducible first|exact dj|refine cj ?_ ?_|refine dw ?_|refine c7 (fun _(h:eK fuel (ix a_0.L k4) (ix b_1.L k4)=some _)=>acn h) (fun _=>rfl) (fun r8=>?_))
  |((with_reducible refine cY (fun(k4:Int)=>⟨[(2,.loc [.int .i64 a_0.Kind,.int .i64 a_0.N,.str a_0.S.b,.sl false 4 a_0.L.length (flat a_0.L)]),(3,.loc [.int .i64 b_1.Kind,.int .i64 b_1.N,.str b_1.S.b,.sl false 4 b_1.L.length (flat b_1.L)]),(5,.int .i64 k4)],[],s⟩) ?_ ?_);(first|exact rfl|simp -implicitDefEqProofs only[go_sem,seval]);rintro J k4)
  |((with_reducible refine eF (fun(_:Unit)=>⟨[(2,.loc [.int .i64 a_0.Kind,.int .i64 a_0.N,.str a_0.S.b,.sl false 4 a_0.L.length (flat a_0.L)]),(3,.loc [.int .i64 b_1.Kind,.int .i64 b_1.N,.str b_1.S.b,.sl false 4 b_1.L.length (flat b_1.L)])],[],s⟩) (fun J=>?_) ?_);rotate_left;rintro _)
  |refine Xe4 ?_|exact Xf8)
def pD(a_0:aa)(b_1:aa):Option (Bool):=
 aZ (eK Bp a_0 b_1) fun r1=>
 some (r1==0)
def FT{a_0 b_1}:FF 42 [.agg [.int .i64 a_0.Kind,.int .i64 a_0.N,.str a_0.S.b,.sl false 4 a_0.L.length (flat a_0.L)],.agg [.int .i64 b_1.Kind,.int .i64 b_1.N,.str b_1.S.b,.sl false 4 b_1.L.length (flat b_1.L)]] (pD a_0 b_1) fun r=>[.bool r]:=by
 intro s Q
 refine FR 9 [⟨4,true,none⟩] 0x11be1a5bec161636df194054487621f374f101cfe965a03981dc pD.eq_1 ?_
 repeat'(first
  |with_reducible refine aN (fun _(h:eK Bp a_0 b_1=some _)=>(kK Am h:)) (fun r1=>?_)
  |refine Xe4 ?_|exact Xf8)
def mG(a_0:aA)(b_1:aA):Option (Bool):=
 aZ (pD a_0.V b_1.V) fun r1=>
 some ((r1&&((a_0.Stream==b_1.Stream)!=false))&&(a_0.Data.b==b_1.Data.b))
def FU{a_0 b_1}:FF 12 [.agg [.int .i64 a_0.V.Kind,.int .i64 a_0.V.N,.str a_0.V.S.b,.sl false 4 a_0.V.L.length (flat a_0.V.L),.bool a_0.Stream,.str a_0.Data.b],.agg [.int .i64 b_1.V.Kind,.int .i64 b_1.V.N,.str b_1.V.S.b,.sl false 4 b_1.V.L.length (flat b_1.V.L),.bool b_1.Stream,.str b_1.Data.b]] (mG a_0 b_1) fun r=>[.bool r]:=by
 intro s Q
 refine FR 24 [⟨4,true,none⟩] 0x3cb2be4b47975af2c456ba05b8ccf2301c5c3a12bbca42185fed7189fd7b4258e4da8e72284ebc0557933a5116a4f2546973c59357f101d155e5af6981dc mG.eq_1 ?_
 repeat'(first
  |with_reducible refine aN (fun _(h:pD a_0.V b_1.V=some _)=>(kK FT h:)) (fun r1=>?_)
  |refine Xe4 ?_|exact Xf8)
end Go.AB
end
section
set_option maxRecDepth 16000
namespace Go.AB
open Go
open Go.Proofs.Tryz (prog)
attribute[-go_sem] bX cP bD bV Nat.add_zero mi cy
structure jq where
 lC:Int
 Path:(List Int)
 bp:aa
instance:aO jq:=⟨6,fun x=>[.int .i64 x.lC,.sl false 1 x.Path.length (flat x.Path),.int .i64 x.bp.Kind,.int .i64 x.bp.N,.str x.bp.S.b,.sl false 4 x.bp.L.length (flat x.bp.L)],(jq.mk 0 [] (aa.mk 0 0 (bg.mk []) [])),B_,fun _=>rfl,fun _=>rfl⟩
structure HL where
 n_:Int
 v_:aa
 aaA:(List Int)
 abI:Int
instance:aO HL:=⟨7,fun x=>[.int .i64 x.n_,.int .i64 x.v_.Kind,.int .i64 x.v_.N,.str x.v_.S.b,.sl false 4 x.v_.L.length (flat x.v_.L),.sl false 1 x.aaA.length (flat x.aaA),.int .i64 x.abI],(HL.mk 0 (aa.mk 0 0 (bg.mk []) []) [] 0),B_,fun _=>rfl,fun _=>rfl⟩
def oy(l_0:(List aa)):Option (aa):=
 jn (
  iter (fun((v3,i4):aa×Int)=>
   if decide (aC (i4+1)<(l_0.length:Int))then
    a8 (0<=i4/\i4<l_0.length)<|
    a8 (0<=aC (i4+1)/\aC (i4+1)<l_0.length)<|
    aZ (rE v3 ((ix l_0 i4).S) (ix l_0 (aC (i4+1)))) fun r7=>
    some (.inl (r7,aC (i4+2)))
   else
    some (.inr v3)) ((aa.mk 7 0 (bg.mk []) ([]:List aa)),0)) fun(v2:aa)=>
 some v2
def B3{l_0}:FF 46 [.sl false 4 l_0.length (flat l_0)] (oy l_0) fun r=>[.agg [.int .i64 r.Kind,.int .i64 r.N,.str r.S.b,.sl false 4 r.L.length (flat r.L)]]:=by
 intro s Q
 refine FR 26 [⟨2,false,some (4,true)⟩] 0x18085dfb18e6ca827f165f14e062d6f0fdf11b32467ab35fca26021b86761eca55f33f99c9bb7623e069a71832ff35f1fb2bc4e053732e35d7bccf5e6a2551ad189cf570e267dc19a782c2424df4cb1b0ec1cda689f78a503aa059dcc47d9416df736d32a606d21cfa16b9fed78fed091826a263c3549f991eb37e0092753a oy.eq_1 ?_
 repeat'(first
  |(with_reducible first|exact dj|refine cj ?_ ?_|refine dw ?_|refine c7 (fun _(h:rE v3 ((ix l_0 i4).S) (ix l_0 (aC (i4+1)))=some _)=>JV h) (fun _=>rfl) (fun r7=>?_))
  |((with_reducible refine cY (fun((v3,i4):aa×Int)=>⟨[(0,.sl false 4 l_0.length (flat l_0)),(2,.loc [.int .i64 0,.int .i64 0,.str (bg.mk []).b,.sl true 4 0 []]),(3,.loc [.int .i64 v3.Kind,.int .i64 v3.N,.str v3.S.b,.sl false 4 v3.L.length (flat v3.L)]),(4,.int .i64 i4)],[],s⟩) ?_ ?_);(first|exact rfl|simp -implicitDefEqProofs only[go_sem,seval]);rintro J ⟨v3,i4⟩)
  |((with_reducible refine dT (fun(v2:aa)=>⟨[(2,.loc [.int .i64 0,.int .i64 0,.str (bg.mk []).b,.sl true 4 0 []]),(3,.loc [.int .i64 v2.Kind,.int .i64 v2.N,.str v2.S.b,.sl false 4 v2.L.length (flat v2.L)])],[],s⟩) (fun J=>?_) ?_);rotate_left;rintro v2)
  |refine Xe4 ?_|exact Xf8)
def BZ{l_0}{s:ae}{r:aa}(h:oy l_0=some r):FE prog 46 [.sl false 4 l_0.length (flat l_0)] s [.agg [.int .i64 r.Kind,.int .i64 r.N,.str r.S.b,.sl false 4 r.L.length (flat r.L)]] s:=B3 ⟨r,h,rfl,rfl⟩
structure gX where
 lC:Int
 Path:(List Int)
 bp:aa
instance:aO gX:=⟨6,fun x=>[.int .i64 x.lC,.sl false 1 x.Path.length (flat x.Path),.int .i64 x.bp.Kind,.int .i64 x.bp.N,.str x.bp.S.b,.sl false 4 x.bp.L.length (flat x.bp.L)],(gX.mk 0 [] (aa.mk 0 0 (bg.mk []) [])),B_,fun _=>rfl,fun _=>rfl⟩
@[go_sem]theorem zx(x:gX):aO.cells x=[.int .i64 x.lC,.sl false 1 x.Path.length (flat x.Path),.int .i64 x.bp.Kind,.int .i64 x.bp.N,.str x.bp.S.b,.sl false 4 x.bp.L.length (flat x.bp.L)]:=rfl
def uC(n_0:Int):Option (aa):=some (aa.mk 8 n_0 (bg.mk []) ([]:List aa))
def EI{n_0}:FF 45 [.int .i64 n_0] (uC n_0) fun r=>[.agg [.int .i64 r.Kind,.int .i64 r.N,.str r.S.b,.sl false 4 r.L.length (flat r.L)]]:=by
 intro s Q
 exact FC 5 [⟨2,false,some (4,true)⟩] 0xcb004adcf0022ace58f086d21cf9bef07a609f991eb37e0092753a uC.eq_1
def jQ{n_0}{s:ae}{r:aa}(h:uC n_0=some r):FE prog 45 [.int .i64 n_0] s [.agg [.int .i64 r.Kind,.int .i64 r.N,.str r.S.b,.sl false 4 r.L.length (flat r.L)]] s:=EI ⟨r,h,rfl,rfl⟩
end Go.AB
end
