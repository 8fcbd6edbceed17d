/- A part. -/
import Derived.Test.YtgecakgfnjkkbaaGreatFt24
set_option linter.unusedSimpArgs false
set_option linter.unusedVariables false
section
set_option maxRecDepth 16000
namespace Go.AB
open Go
open Go.Proofs.Tryz (prog)
attribute[-go_sem] Nat.add_zero mI cE
def wT:IC:=dec 0x24211861a9a6a54f40846707034f1b6e91dbfd05ac70dadc824473a
theorem Gl:eH prog 40 11 [⟨2,true,none⟩] wT=true:=by kernel_rfl
def qU:IC:=dec 0x116198e47d8ef7f9f32b2c4d2de4665940a4c4c64ae98970def01f94d213cc00473a
theorem zK:eH prog 37 10 [⟨2,true,none⟩] qU=true:=by kernel_rfl
def qT:IC:=dec 0x112d52d4a6a2a85bb7fef4baa3403566668b45382277a1b28f1f5471781744038102e924db550ddd5a3a86ca3f3e4456d0def12312f24d3980083fa
theorem zJ:eH prog 11 20 [⟨4,true,none⟩] qT=true:=by kernel_rfl
def ux:IC:=dec 0x923974c0fbb3b2dc7c5a06a690d972322b7d30e9b294b4f82e90606bda29f64ca8fbf7e70753f657fa004fd330bcdd7f61159ce502281bd61d9005388478b
theorem Ds:eH prog 33 14 [⟨2,true,none⟩,⟨3,true,none⟩] ux=true:=by kernel_rfl
def qX:IC:=dec 0x150f3920dccc9d41605ec3bf24b1a0c2fbdabf4ef6cdf9e1620a472f9a794d0609eff9447d18a1e415038e33fafe0ee85377b2f2b11388473a
theorem zP:eH prog 13 17 [⟨2,true,none⟩] qX=true:=by kernel_rfl
def qV:IC:=dec 0x431edb2d2c176c762516b4a008ce71d3e5273c7de2417eef03c0d41b1363151a7f61e42670f4a47330ff7e2d20941839f2790910f7ccf286d66ba8698cf1a6c3181a97fab2743159b69e41bf806fe7776c08b2007047d77482706d475b1de946dc8bb19f6b1037f3ec622116c0bfebfea348cf866a94e6a5ac87961a272c6c319ef0053ae4ce34b692b56ccb8bc4d1b7d20aba6b2fa6f471ff2557243cf3ce872ac834def4e3295
theorem zM:eH prog 69 47 [] qV=true:=by kernel_rfl
def ur:IC:=dec 0x3663fbcb698256ae5eae0af3ba5585a8b6db5971e0b176e4b2d3041c472390acfc495f4e4d7f8dd26e679e186fa49adb0798b97478c621b125cf677e9449eb996e5ba8f7601f7d05fb8b8747ed1cef37c3b4c7000aa2e3622fd01a2f114262458980f9d808d554d0212f4fcaf501cc616a2b6721e91aa8312eed7dc9fd87e0836b9fbdaf03fb5eb53f7573583c4d138ed5df127d57071c4270df7b9cd01c21e2dbe9dd1f0eea221524efd876555f657b7ea0a950bdcfd73350222320cb6275d339ce32b0245578f6e7677a3c6ab51532cd0fe0daa015f04adc6e70f5a3972e461b581bde5018105a582b4384b03d6e18ef198c2eb064d239ed11a05a7a870c9ab77d6836dc801acdc976400c0ba
theorem Dp:eH prog 34 71 [⟨6,true,none⟩] ur=true:=by kernel_rfl
abbrev Hr:=Int->Option (List UInt8)
structure gY where
 total:Int
 known:List aj
 pd:Hr
def nS(m:Hr)(k:Int)(l:List UInt8):Hr:=fun i=>if i=k then some l else m i
def KI(es:List (AV×AV)):Prop:=∀p∈es,∃(k:Int)(v:AV),p=(.int .i64 k,v)
def Av(s0 s:ae)(es:List (AV×AV))(k:Int):Option (List UInt8)->Prop
 |none=>fM (.int .i64 k) es=none
 |some l=>l.length=4096/\∃b,fM (.int .i64 k) es=some (.arr b 0 4096 4096)/\s0 b=none/\s b=some (.cells (flat l))
def Inj(es:List (AV×AV)):Prop:=∀k k' b,fM (.int .i64 k) es=some (.arr b 0 4096 4096)->fM (.int .i64 k') es=some (.arr b 0 4096 4096)->k=k'
def eK(s0 s:ae)(B:Nat)(g:gY):Prop:=Sub s0 s/\s0 B=none/\∃M es,s B=some (.cells [.bool true,.int .i64 g.total,CD g.known,.mp M])/\s0 M=none/\s M=some (.map es)/\KI es/\(∀k,Av s0 s es k (g.pd k))/\Inj es
def ace(cs:List AV):Prop:=∀c∈cs,∃m:Int,c=.int .u8 m
theorem V0(l:List UInt8):ace (flat l):=fun c hc=>by
 obtain⟨y,hy,hc⟩:=List.mem_flatten.1 hc
 obtain⟨z,_,rfl⟩:=List.mem_map.1 hy
 exact⟨_,List.mem_singleton.1 hc⟩
theorem MD{l:List UInt8}{r:List AV}(h:flat l=.bool true::r):False:=by
 obtain⟨m,hm⟩:=V0 l (.bool true) (by rw[h];exact List.mem_cons_self)
 cases hm
theorem Av.mono{s0 s s':ae}{es:List (AV×AV)}{k:Int}{o:Option (List UInt8)}(h:Av s0 s es k o)(hs:∀b l,s b=some (.cells (flat (l:List UInt8)))->s' b=some (.cells (flat l))):Av s0 s' es k o:=by
 cases o with
 |none=>exact h
 |some l=>obtain⟨h1,b,h2,h3,h4⟩:=h;exact⟨h1,b,h2,h3,hs b l h4⟩
theorem eK.setAt{s0 s:ae}{B:Nat}{g:gY}(h:eK s0 s B g):∃cs,yS s B 2 cs g.known/\∀l,eK s0 (s.set B (.cells (AB.setAt cs 2 [CD l]))) B ⟨g.total,l,g.pd⟩:=by
 obtain⟨h1,h2,M,es,h3,h4,h5,h6,h7,h8⟩:=h
 refine⟨_,⟨h3,rfl⟩,fun l=>⟨fun b o hb=>?_,h2,M,es,?_,h4,?_,h6,fun k=>(h7 k).mono fun b l hb=>?_,h8⟩⟩
 ·rw[ai (fun e=>by rw[e,h2]at hb;cases hb)];exact h1 b o hb
 ·rw[cg];rfl
 ·rw[ai (fun e=>by rw[e,h3]at h5;cases h5)];exact h5
 ·rw[ai (fun e=>by
   rw[e,h3]at hb
   injection hb with hb;injection hb with hb
   exact MD hb.symm)]
  exact hb
theorem KI.keys{es:List (AV×AV)}(h:KI es):nw (.int .i64) es=true:=by
 unfold nw
 rw[List.all_eq_true]
 intro p hp
 obtain⟨k,v,rfl⟩:=h p hp
 rfl
theorem mS(k k':Int)(v:AV):∀{es:List (AV×AV)},KI es->fM (.int .i64 k) (xu (.int .i64 k') v es)=if k=k' then some v else fM (.int .i64 k) es
 |[],_=>by
  simp only[xu,fM,pG]
  by_cases h:k=k'
  ·simp[h]
  ·rw[if_neg h,show(k==k')=false by simpa using h];rfl
 |p::es,h=>by
  obtain⟨j,u,rfl⟩:=h p List.mem_cons_self
  have ih:=mS k k' v (es:=es) fun q hq=>h q (List.mem_cons_of_mem _ hq)
  simp only[xu,pG]
  by_cases e:k'=j
  ·subst e
   by_cases h:k=k'
   ·simp[fM,pG,h]
   ·simp only[beq_self_eq_true,cond_true,fM,pG];rw[if_neg h,show(k==k')=false by simpa using h];rfl
  ·rw[show(k'==j)=false by simpa using e]
   simp only[cond_false,fM,pG,ih]
   by_cases h:k=j
   ·subst h;simp only[beq_self_eq_true,cond_true,if_neg (fun h:k=k'=>e h.symm)]
   ·rw[show(k==j)=false by simpa using h];simp
theorem KI.put{k:Int}{v:AV}:∀{es:List (AV×AV)},KI es->KI (xu (.int .i64 k) v es)
 |[],_=>fun p hp=>by
  rcases List.mem_cons.1 hp with rfl|hp
  ·exact⟨k,v,rfl⟩
  ·cases hp
 |q::es,h=>by
  unfold xu
  cases hk:wY (.int .i64 k) q.1 with
  |true=>
   intro p hp
   rcases List.mem_cons.1 hp with rfl|hp
   ·exact⟨k,v,rfl⟩
   ·exact h p (List.mem_cons_of_mem _ hp)
  |false=>
   intro p hp
   rcases List.mem_cons.1 hp with rfl|hp
   ·exact h _ List.mem_cons_self
   ·exact KI.put (fun q' hq=>h q' (List.mem_cons_of_mem _ hq)) p hp
theorem eK.row{s0 s:ae}{B b M:Nat}{g:gY}{es:List (AV×AV)}{k:Int}{l l':List UInt8}(h:eK s0 s B g)(hB:s B=some (.cells [.bool true,.int .i64 g.total,CD g.known,.mp M]))(hM:s M=some (.map es))(hb:s0 b=none)(hk:fM (.int .i64 k) es=some (.arr b 0 4096 4096))(h1:s b=some (.cells (flat l)))(h3:l'.length=4096):
 eK s0 (s.set b (.cells (flat l'))) B ⟨g.total,g.known,nS g.pd k l'⟩:=by
 obtain⟨q1,q2,M',es',q3,q4,q5,q6,q7,q8⟩:=h
 have eM:M'=M:=by
  rw[q3]at hB
  injection hB with hB;injection hB with hB;simp at hB;exact hB
 subst eM
 have eE:es'=es:=by rw[q5]at hM;injection hM with hM;injection hM
 subst eE
 have nB:B≠b:=fun e=>by
  rw[<-e,q3]at h1
  injection h1 with h1;injection h1 with h1
  exact MD h1.symm
 have nM:M'≠b:=fun e=>by rw[<-e,q5]at h1;cases h1
 refine⟨fun c o hc=>?_,q2,M',es',by rw[ai nB];exact q3,q4,by rw[ai nM];exact q5,q6,fun i=>?_,q8⟩
 ·rw[ai (fun e=>by rw[e,hb]at hc;cases hc)];exact q1 c o hc
 ·show Av _ _ _ i (if i=k then some l' else g.pd i)
  by_cases hi:i=k
  ·subst hi;rw[if_pos rfl];exact⟨h3,b,hk,hb,cg ..⟩
  ·rw[if_neg hi]
   have h:=q7 i
   cases ho:g.pd i with
   |none=>rw[ho]at h;exact h
   |some l2=>
    rw[ho]at h
    obtain⟨w1,b2,w2,w3,w4⟩:=h
    exact⟨w1,b2,w2,w3,by rw[ai (fun e=>hi (q8 i k b2 w2 (by rw[e];exact hk)))];exact w4⟩
theorem eK.put{s0 s:ae}{B M b:Nat}{g:gY}{es:List (AV×AV)}{k:Int}{l:List UInt8}(h:eK s0 s B g)(hB:s B=some (.cells [.bool true,.int .i64 g.total,CD g.known,.mp M]))(hM:s M=some (.map es))(hb:s b=none)(h3:l.length=4096):
 eK s0 ((s.set b (.cells (flat l))).set M (.map (xu (.int .i64 k) (.arr b 0 4096 4096) es))) B ⟨g.total,g.known,nS g.pd k l⟩:=by
 obtain⟨q1,q2,M',es',q3,q4,q5,q6,q7,q8⟩:=h
 have eM:M'=M:=by
  rw[q3]at hB
  injection hB with hB;injection hB with hB;simp at hB;exact hB
 subst eM
 have eE:es'=es:=by rw[q5]at hM;injection hM with hM;injection hM
 subst eE
 have nBb:B≠b:=fun e=>by rw[e,hb]at q3;cases q3
 have nMb:M'≠b:=fun e=>by rw[e,hb]at q5;cases q5
 have nB:B≠M':=fun e=>by rw[e,q5]at q3;cases q3
 have fb:∀i,fM (.int .i64 i) es'≠some (.arr b 0 4096 4096):=fun i e=>by
  have h:=q7 i
  cases ho:g.pd i with
  |none=>rw[ho]at h;rw[show fM _ es'=none from h]at e;cases e
  |some l2=>
   rw[ho]at h
   obtain⟨w1,b2,w2,w3,w4⟩:=h
   rw[w2]at e;injection e with e;injection e with e
   rw[e,hb]at w4;cases w4
 refine⟨fun c o hc=>?_,q2,M',_,by rw[ai nB,ai nBb];exact q3,q4,cg ..,q6.put,fun i=>?_,fun i j c hi hj=>?_⟩
 ·rw[ai (fun e=>by rw[e,q4]at hc;cases hc),ai (fun e=>by rw[e,Sub.none q1 hb]at hc;cases hc)];exact q1 c o hc
 ·show Av _ _ _ i (if i=k then some l else g.pd i)
  by_cases hi:i=k
  ·subst hi;rw[if_pos rfl]
   exact⟨h3,b,by rw[mS _ _ _ q6,if_pos rfl],Sub.none q1 hb,by rw[ai (Ne.symm nMb),cg]⟩
  ·rw[if_neg hi]
   have h:=q7 i
   cases ho:g.pd i with
   |none=>rw[ho]at h;show fM _ _=none;rw[mS _ _ _ q6,if_neg hi];exact h
   |some l2=>
    rw[ho]at h
    obtain⟨w1,b2,w2,w3,w4⟩:=h
    exact⟨w1,b2,by rw[mS _ _ _ q6,if_neg hi];exact w2,w3,by rw[ai (fun e=>by rw[e,q5]at w4;cases w4),ai (fun e=>by rw[e,hb]at w4;cases w4)];exact w4⟩
 ·rw[mS _ _ _ q6]at hi hj
  by_cases ei:i=k
  ·by_cases ej:j=k
   ·rw[ei,ej]
   ·rw[if_pos ei]at hi;rw[if_neg ej]at hj
    injection hi with hi;injection hi with hi
    rw[<-hi]at hj;exact absurd hj (fb j)
  ·rw[if_neg ei]at hi
   by_cases ej:j=k
   ·rw[if_pos ej]at hj
    injection hj with hj;injection hj with hj
    rw[<-hj]at hi;exact absurd hi (fb i)
   ·rw[if_neg ej]at hj;exact q8 i j c hi hj
theorem mC{s0 s:ae}{B:Nat}{g:gY}{Q:List AV->ae->Prop}(h:eK s0 s B g)(hq:Q [.bool true] s):FN prog 40 [.ref B 0] s Q:=by
 obtain⟨h1,h2,M,es,h3,h4,h5,h6⟩:=h
 refine FN.ji (FO Gl rfl rfl ?_)
 rw[wT]
 conv in dec _=>reduce
 simp -implicitDefEqProofs only[go_sem,seval,h3]
 exact⟨s,Sub.refl s,hq⟩
theorem zu{s0 s:ae}{B:Nat}{g:gY}{Q:List AV->ae->Prop}(h:eK s0 s B g)(hq:Q [.int .i64 g.total] s):FN prog 37 [.ref B 0] s Q:=by
 refine FN.ji (FO zK rfl rfl ?_)
 rw[qU]
 conv in dec _=>reduce
 simp -implicitDefEqProofs only[go_sem,seval]
 refine mC h ?_
 obtain⟨h1,h2,M,es,h3,h4,h5,h6⟩:=h
 simp -implicitDefEqProofs only[go_sem,seval,h3]
 exact⟨fun h=>h.elim,fun _=>⟨s,Sub.refl s,hq⟩⟩
theorem qP{s0 s:ae}{B:Nat}{g:gY}{at_:Int}{Q:List AV->ae->Prop}(h:eK s0 s B g):ok (lO g.known (max 0 at_)) (fun r=>Q [.int .i64 (min g.total r)] s)->FN prog 11 [.ref B 0,.int .i64 at_] s Q:=by
 intro hh
 refine FN.ji (FO zJ rfl rfl ?_)
 rw[qT]
 conv in dec _=>reduce
 simp -implicitDefEqProofs only[go_sem,seval]
 refine mC h ?_
 obtain⟨cs,hs,_⟩:=h.setAt
 obtain⟨h1,h2,M,es,h3,h4,h5,h6⟩:=h
 simp -implicitDefEqProofs only[go_sem,seval,h3]
 refine⟨fun h=>h.elim,fun _=>?_⟩
 obtain⟨r,hr,hq⟩:=hh
 refine⟨[.int .i64 r],rfl,yT hs ⟨r,hr,rfl,rfl⟩,?_⟩
 simp -implicitDefEqProofs only[go_sem,seval]
 exact⟨s,Sub.refl s,hq⟩
theorem uF{s:ae}{n:Int}{Q:List AV->ae->Prop}(hn:0<=n/\n<=2147483647)(hq:∀B s',eK s s' B ⟨n,[],fun _=>none⟩->Q [.ref B 0,.int .i64 0] s'):FN prog 33 [.int .i64 n] s Q:=by
 refine FN.ji (FO Ds rfl rfl ?_)
 rw[ux]
 conv in dec _=>reduce
 simp -implicitDefEqProofs only[go_sem,seval]
 refine⟨fun h=>?_,fun _ M hM B hB=>⟨_,Sub.refl _,hq B _ ⟨((Sub.refl s).set hM).set hB,?_,M,[],cg ..,hM,?_,fun p hp=>(by cases hp),fun k=>rfl,fun k k' b h=>(by cases h)⟩⟩⟩
 ·simp at h;omega
 ·rw[eT]at hB;exact hB.2
 ·rw[eT]at hB;rw[ai (Ne.symm hB.1),cg]
theorem Ox{es:List (AV×AV)}{n:Int}(h:KI es)(e:fM (.int .i64 n) es=none):sW (.int .i64) (.sl false 1 0 []) true (.int .i64 n) (some (.map es))=.prt True (.iL [.sl false 1 0 [],.bool false]):=by
 show Pl true (ga (.int .i64) (.int .i64 n)=true/\nw (.int .i64) es=true) (uz (.sl false 1 0 []) true (fM (.int .i64 n) es))=_
 rw[e,h.keys]
 show PR.prt (true=true/\true=true) _=_
 simp[uz,Lk,view]
theorem Oy{es:List (AV×AV)}{n:Int}{b:Nat}(h:KI es)(e:fM (.int .i64 n) es=some (.arr b 0 4096 4096)):sW (.int .i64) (.sl false 1 0 []) true (.int .i64 n) (some (.map es))=.prt True (.iL [.arr b 0 4096 4096,.bool true]):=by
 show Pl true (ga (.int .i64) (.int .i64 n)=true/\nw (.int .i64) es=true) (uz (.sl false 1 0 []) true (fM (.int .i64 n) es))=_
 rw[e,h.keys]
 show PR.prt (true=true/\true=true) _=_
 simp[uz,Lk,view]
theorem AE{o:Nat}(h:o<4096):iT 0 4096 o 1=o:=by
 unfold iT
 rw[show(4096==o)=false by simp;omega];simp
def lY(c:List UInt8)(o:Nat)(x:List UInt8):List UInt8:=c.take o++x++c.drop (o+x.length)
theorem RT{c x:List UInt8}{o:Nat}(h:o+x.length<=c.length):(lY c o x).length=c.length:=by unfold lY;simp only[List.length_append,List.length_take,List.length_drop];omega
theorem V2(m:Hr)(k:Int)(x y:List UInt8):nS (nS m k x) k y=nS m k y:=by funext i;unfold nS;by_cases h:i=k<;>simp[h]
theorem cpy{E:St}{d:Option Nat}{K:St->Prop}{s0:ae}{B b M:Nat}{g:gY}{es:List (AV×AV)}{k:Int}{c l:List UInt8}{o o' n cap:Nat}(h:eK s0 E.s B g)(hB:E.s B=some (.cells [.bool true,.int .i64 g.total,CD g.known,.mp M]))(hM:E.s M=some (.map es))(hb:s0 b=none)
 (hk:fM (.int .i64 k) es=some (.arr b 0 4096 4096))(h2:E.s b=some (.cells (flat c)))(h3:c.length=4096)(ho:o<4096)(he:o'=o)(hn:n=4096 -o)
 (hK:∀s3,eK s0 s3 B ⟨g.total,g.known,nS g.pd k (lY c o (l.take (min l.length (4096 -o))))⟩->K ({E with s:=s3}.put d (.int .i64 (min l.length (4096 -o):Nat)))):xV 1 E d K (.arr b o' n cap) (some (l.length,flat l)):=by
 subst he;subst hn
 have hf:(flat c).length=4096:=by rw[aA,h3];rfl
 refine NY h2 (by omega) (hK _ ?_)
 have hl:(l.take (min l.length (4096 -o'))).length=min l.length (4096 -o'):=by rw[List.length_take];omega
 have e:=mP c (l.take (min l.length (4096 -o'))) [] 1 o' rfl (by rw[hl];omega)
 rw[List.append_nil,List.append_nil,Nat.mul_one]at e
 have e2:(flat l).take (min l.length (4096 -o')*1)=flat (l.take (min l.length (4096 -o'))):=sO l _
 rw[e2,e]
 exact eK.row h hB hM hb hk h2 (by
  show(lY c o' (l.take (min l.length (4096 -o')))).length=4096
  rw[RT (by rw[hl];omega),h3])
def NA:List UInt8:=List.replicate 4096 0
def Cx:Int×List UInt8×Hr->Option ((Int×List UInt8×Hr)⊕Hr):=fun(a,l,m)=>
 if decide ((l.length:Int)>0)then
  some (.inl (aC (a+(min l.length (4096 -(a.tmod 4096).toNat):Nat)),l.drop (min l.length (4096 -(a.tmod 4096).toNat)),
   nS m (aC (a.tdiv 4096)) (lY ((m (aC (a.tdiv 4096))).getD NA) (a.tmod 4096).toNat (l.take (min l.length (4096 -(a.tmod 4096).toNat))))))
 else some (.inr m)
theorem zw{s0 s:ae}{B:Nat}{g:gY}{a0:Int}{l0:List UInt8}{Q:List AV->ae->Prop}(h:eK s0 s B g)(h0:0<=a0)(h1:a0+l0.length<=9223372036854775807):
 ok (iter Cx (a0,l0,g.pd)) (fun m=>∀s',eK s0 s' B ⟨g.total,g.known,m⟩->Q [] s')->FN prog 69 [.ref B 0,.int .i64 a0,.sl false 1 l0.length (flat l0)] s Q:=by
 intro hw
 refine FN.ji (FO zM rfl rfl ?_)
 rw[qV]
 conv in dec _=>reduce
 simp -implicitDefEqProofs only[go_sem,Nat.reduceBEq,Nat.reduceAdd,Nat.reduceMul,Nat.reduceLeDiff,Nat.reduceEqDiff,Nat.reduceBNe,UInt8.reduceToNat,UInt32.reduceToNat]
 revert hw
 refine kR (fun st τ=>0<=st.1/\st.1+(st.2.1.length:Int)<=9223372036854775807/\∃s',τ=⟨[(0,.ref B 0),(1,.int .i64 st.1),(2,.sl false 1 st.2.1.length (flat st.2.1))],[],s'⟩/\eK s0 s' B ⟨g.total,g.known,st.2.2⟩) ⟨h0,h1,s,rfl,h⟩ ?_
 rintro J ⟨a,l,m⟩ τ ⟨ha,hal,s',rfl,hs⟩
 have ha:0<=a:=ha
 have hal:a+(l.length:Int)<=9223372036854775807:=hal
 obtain⟨q1,q2,M,es,q3,q4,q5,q6,q7,q8⟩:=id hs
 rw[Cx]
 simp -implicitDefEqProofs only[go_sem,Nat.reduceBEq,Nat.reduceAdd,Nat.reduceMul,Nat.reduceLeDiff,Nat.reduceEqDiff,Nat.reduceBNe,UInt8.reduceToNat,UInt32.reduceToNat,q3,q5]
 rintro⟨hw1,hw2⟩
 refine⟨fun hc=>⟨by decide,by decide,?_⟩,fun hc=>⟨s',Sub.refl s',hw2 hc s' hs⟩⟩
 have hw:=hw1 hc
 clear hw1 hw2
 have hm:0<=a.tmod 4096:=Int.tmod_nonneg _ ha
 have hm2:a.tmod 4096<4096:=Int.tmod_lt_of_pos _ (by decide)
 have hN:min l.length (4096 -(a.tmod 4096).toNat)<=l.length:=Nat.min_le_left ..
 have jF:∀N,AB.sub (flat l) (N*1) ((l.length -N)*1)=flat (l.drop N):=fun N=>by rw[kK l 1 N (l.length -N) rfl,List.take_of_length_le (by simp)]
 have hlen:∀N,(flat (l.drop N)).length/1=(l.drop N).length:=fun N=>by rw[Nat.div_one,aA];exact Nat.mul_one _
 have hj:∀c,(m (aC (a.tdiv 4096))).getD NA=c->∀s3,eK s0 s3 B ⟨g.total,g.known,nS m (aC (a.tdiv 4096)) (lY c (a.tmod 4096).toNat (l.take (min l.length (4096 -(a.tmod 4096).toNat))))⟩->J ⟨[(0,.ref B 0),(1,.int .i64 (aC (a+(min l.length (4096 -(a.tmod 4096).toNat):Nat)))),(2,.sl false 1 (l.drop (min l.length (4096 -(a.tmod 4096).toNat))).length (flat (l.drop (min l.length (4096 -(a.tmod 4096).toNat)))))],[],s3⟩:=fun c hcc s3 h3=>by
  subst hcc
  have hw':aC (a+(min l.length (4096 -(a.tmod 4096).toNat):Nat))=a+(min l.length (4096 -(a.tmod 4096).toNat):Nat):=ar (by omega) (by omega)
  refine hw _ ⟨?_,?_,s3,rfl,h3⟩
  ·show 0<=aC _;rw[hw'];omega
  ·show aC _+((l.drop _).length:Int)<=_;rw[hw',List.length_drop];omega
 have q7':=q7 (aC (a.tdiv 4096))
 cases hmk:m (aC (a.tdiv 4096))with
 |none=>
  have e:fM (.int .i64 (aC (a.tdiv 4096))) es=none:=by rw[show(gY.pd ⟨g.total,g.known,m⟩) (aC (a.tdiv 4096))=none from hmk]at q7';exact q7'
  rw[Ox q6 e]
  simp -implicitDefEqProofs only[go_sem,Nat.reduceBEq,Nat.reduceAdd,Nat.reduceMul,Nat.reduceLeDiff,Nat.reduceEqDiff,Nat.reduceBNe,UInt8.reduceToNat,UInt32.reduceToNat,q3,q5]
  refine⟨fun _=>⟨by decide,by decide,by decide,fun b hb=>?_⟩,fun h=>(by cases h)⟩
  have hB:B≠b:=fun e=>by rw[<-e,q3]at hb;cases hb
  have hM:M≠b:=fun e=>by rw[<-e,q5]at hb;cases hb
  have hBM:B≠M:=fun e=>by rw[e,q5]at q3;cases q3
  have e1:s0 b=none:=Sub.none q1 hb
  simp -implicitDefEqProofs only[go_sem,Nat.reduceBEq,Nat.reduceAdd,Nat.reduceMul,Nat.reduceLeDiff,Nat.reduceEqDiff,Nat.reduceBNe,UInt8.reduceToNat,UInt32.reduceToNat,ai hB,ai hM,q3,q5]
  refine⟨⟨rfl,rfl,q6.keys⟩,?_⟩
  simp -implicitDefEqProofs only[go_sem,Nat.reduceBEq,Nat.reduceAdd,Nat.reduceMul,Nat.reduceLeDiff,Nat.reduceEqDiff,Nat.reduceBNe,UInt8.reduceToNat,UInt32.reduceToNat]
  refine⟨⟨hm,Int.le_of_lt hm2,Int.le_refl _⟩,?_⟩
  rw[js,aN]
  have hss:=eK.put (k:=aC (a.tdiv 4096)) (l:=List.replicate (Int.toNat 4096) (0:UInt8)) hs q3 q5 hb (by rw[List.length_replicate];rfl)
  refine cpy (o:=(a.tmod 4096).toNat) (c:=List.replicate (Int.toNat 4096) (0:UInt8)) hss (by show ae.set (ae.set s' b _) M _ B=_;rw[ai hBM,ai hB];exact q3) (cg ..) e1 (by rw[mS _ _ _ q6,if_pos rfl];rfl) (by show ae.set (ae.set s' b _) M _ b=_;rw[ai (Ne.symm hM),cg]) (by rw[List.length_replicate];rfl) (by omega) (AE (by omega)) (by simp;omega) fun s3 h3=>?_
  simp -implicitDefEqProofs only[go_sem,Nat.reduceBEq,Nat.reduceAdd,Nat.reduceMul,Nat.reduceLeDiff,Nat.reduceEqDiff,Nat.reduceBNe,UInt8.reduceToNat,UInt32.reduceToNat]
  rw[jF,hlen]
  exact⟨by omega,hj (List.replicate (Int.toNat 4096) (0:UInt8)) (by rw[hmk];rfl) s3 (by have h4:=h3;rw[V2]at h4;exact h4)⟩
 |some c=>
  obtain⟨w1,b,e,e1,e2⟩:Av s0 s' es (aC (a.tdiv 4096)) (some c):=by rw[show(gY.pd ⟨g.total,g.known,m⟩) (aC (a.tdiv 4096))=some c from hmk]at q7';exact q7'
  rw[Oy q6 e]
  simp -implicitDefEqProofs only[go_sem,Nat.reduceBEq,Nat.reduceAdd,Nat.reduceMul,Nat.reduceLeDiff,Nat.reduceEqDiff,Nat.reduceBNe,UInt8.reduceToNat,UInt32.reduceToNat,q3,q5]
  refine⟨fun h=>(by cases h),fun _=>?_⟩
  refine⟨⟨hm,Int.le_of_lt hm2,Int.le_refl _⟩,?_⟩
  rw[js,aN]
  refine cpy (o:=(a.tmod 4096).toNat) hs q3 q5 e1 e e2 w1 (by omega) (AE (by omega)) (by omega) fun s3 h3=>?_
  simp -implicitDefEqProofs only[go_sem,Nat.reduceBEq,Nat.reduceAdd,Nat.reduceMul,Nat.reduceLeDiff,Nat.reduceEqDiff,Nat.reduceBNe,UInt8.reduceToNat,UInt32.reduceToNat]
  rw[jF,hlen]
  exact⟨by omega,hj c (by rw[hmk];rfl) s3 h3⟩
def Vh(a:Int)(l:List UInt8)(ms:List aj):Int×Hr->Option ((Int×Hr)⊕Hr):=fun(k,m)=>
 if decide (k<(ms.length:Int))then
  bt (0<=k/\k<ms.length/\(a<=(ix ms k).aR/\(ix ms k).aR<=(ix ms k).To/\(ix ms k).To<=a+l.length))<|
  bn (iter Cx ((ix ms k).aR,part l ((ix ms k).aR -a) ((ix ms k).To -a),m)) fun m'=>
  some (.inl (aC (k+1),m'))
 else some (.inr m)
def gX(g:gY)(a:Int)(l:List UInt8):Option (gY×Int):=
 if decide (a<0)||decide (a>g.total)then some (g,2)
 else if decide ((l.length:Int)>aC (g.total -a))then some (g,5)
 else
  bn (lN g.known ⟨a,aC (a+l.length)⟩) fun ms=>
  bn (iter (Vh a l ms) (0,g.pd)) fun m=>
  bn (vY g.known ⟨a,aC (a+l.length)⟩) fun kn=>some (⟨g.total,kn,m⟩,0)
theorem ub{s0 s:ae}{B:Nat}{g:gY}{a:Int}{l:List UInt8}{Q:List AV->ae->Prop}(h:eK s0 s B g)(ht:g.total<=2147483647):ok (gX g a l) (fun r=>∀s',eK s0 s' B r.1->Q [.int .i64 r.2] s')->FN prog 34 [.ref B 0,.int .i64 a,.sl false 1 l.length (flat l)] s Q:=by
 intro hh
 refine FN.ji (FO Dp rfl rfl ?_)
 rw[ur]
 conv in dec _=>reduce
 simp -implicitDefEqProofs only[go_sem,seval]
 refine mC h ?_
 obtain⟨cs,hs,zF⟩:=h.setAt
 have h3:∃M,s B=some (.cells [.bool true,.int .i64 g.total,CD g.known,.mp M]):=by obtain⟨_,_,M,_,h3,_⟩:=h;exact⟨M,h3⟩
 obtain⟨M,h3⟩:=h3
 revert hh
 rw[gX]
 simp -implicitDefEqProofs only[go_sem,seval,h3]
 rintro⟨w1,w2⟩
 refine⟨fun h=>h.elim,fun _=>⟨fun hc=>⟨s,Sub.refl s,w1 hc s h⟩,fun hc=>⟨fun hd=>⟨s,Sub.refl s,(w2 hc).1 hd s h⟩,fun hd=>?_⟩⟩⟩
 obtain⟨ms,m1,hh⟩:=(w2 hc).2 hd
 refine⟨[XN ms],rfl,Ax hs ⟨ms,m1,rfl,rfl⟩,?_⟩
 clear w1 w2
 have hc1:0<=a/\a<=g.total:=by simp at hc;omega
 have hl:a+l.length<=g.total:=by
  have hd:¬((l.length:Int)>aC (g.total -a)):=by simpa using hd
  rw[ar (by omega) (by omega)]at hd;omega
 have hw:aC (a+l.length)=a+l.length:=ar (by omega) (by omega)
 rw[hw]at hh⊢
 simp -implicitDefEqProofs only[go_sem,seval]
 revert hh
 refine kR (fun k τ=>∃s',τ=⟨[(0,.ref B 0),(1,.int .i64 a),(2,.sl false 1 l.length (flat l)),(7,.loc [.int .i64 a,.int .i64 (a+l.length)]),(45,XN ms),(46,.int .i64 (ms.length:Nat)),(47,.int .i64 k.1)],[],s'⟩/\eK s0 s' B ⟨g.total,g.known,k.2⟩) ⟨s,rfl,h⟩ ?_
 rintro J ⟨k,m⟩ τ ⟨s',rfl,h'⟩
 obtain⟨cs',hs',ada⟩:=h'.setAt
 have jF:=h'.1
 rw[Vh]
 simp -implicitDefEqProofs only[go_sem,seval]
 rintro⟨w1,w2⟩
 refine⟨fun hk=>?_,fun hk=>?_⟩
 ·obtain⟨⟨k1,k2,k3,k4,k5⟩,w1⟩:=w1 hk
  refine⟨⟨k1,k2⟩,?_⟩
  rw[ar (n:=(ix ms k).aR -a) (by omega) (by omega),ar (n:=(ix ms k).To -a) (by omega) (by omega)]
  refine⟨⟨by omega,by omega,by omega⟩,?_⟩
  refine zw h' (by omega) ?_ (aK w1 fun m' w1 s3 h3=>?_)
  ·have:(part l ((ix ms k).aR -a) ((ix ms k).To -a)).length<=((ix ms k).To -a -((ix ms k).aR -a)).toNat:=by unfold part;exact List.length_take_le ..
   omega
  ·simp -implicitDefEqProofs only[go_sem,seval]
   exact w1 _ ⟨s3,rfl,h3⟩
 ·have w2:=w2 hk
  refine J4 (x:=⟨a,a+l.length⟩) hs' (aK w2 fun kn hq=>?_)
  simp -implicitDefEqProofs only[go_sem,seval]
  exact⟨_,Sub.refl _,hq _ (ada kn)⟩
theorem qZ{s:ae}{l:List UInt8}{Q:List AV->ae->Prop}(hl:l.length<=2147483647):ok (gX ⟨l.length,[],fun _=>none⟩ 0 l) (fun r=>∀B s',eK s s' B r.1->Q [.ref B 0] s')->FN prog 13 [.sl false 1 l.length (flat l)] s Q:=by
 intro hh
 refine FN.ji (FO zP rfl rfl ?_)
 rw[qX]
 conv in dec _=>reduce
 simp -implicitDefEqProofs only[go_sem,seval]
 refine uF (by omega) fun B s' h'=>?_
 simp -implicitDefEqProofs only[go_sem,seval]
 refine⟨fun h=>h.elim,fun _=>ub h' (show(l.length:Int)<=2147483647 by omega) (aK hh fun r hq s3 h3=>?_)⟩
 simp -implicitDefEqProofs only[go_sem,seval]
 exact⟨s3,Sub.refl _,hq B s3 h3⟩
def rU:IC:=dec 0x27a3b5d2c2e76ef05141fd12a42afcbfa684037ebc4a550c4b5b2235492295a01ea565d8c49df5a5b880e6362fd5e7f91ea493ed857b2a1084e44b598f58e4966900d2896e58ec08f21c9e73dcef9ce3ed360d4ab16886066a7e9ead567501b09ad9d5254957d534cedd35e042ab538f1b7c05ec3209ecb8c766a4e52f952d2feb3d4d4cbdd9cdbddd7ee5bfb6d64c042b2fa16d5e6cb4d564fcb88ab293ecd5675b0ff5f658bbd79940d6d5f59bd199ffcb28379c421bceb14464db80e86e59b7cea1acc5ba31fa1bd0412c61e509279072bd4b05ad97f14e02ea49d738bdcdd5af373b2689094ecc00de48eb76ec97c88355a76fe662016194e6c005416052aee4276798d0f3210b
theorem Bq:eH prog 71 85 [⟨6,true,none⟩,⟨7,true,none⟩] rU=true:=by kernel_rfl
def Jt(m:Hr)(at_ n:Int):List UInt8->Option (List UInt8⊕List UInt8):=fun out=>
 if decide ((out.length:Int)<n)then
  bt ((m (aC ((aC (at_+out.length)).tdiv 4096))).isSome=true)<|
  some (.inl (out++(((m (aC ((aC (at_+out.length)).tdiv 4096))).getD []).drop ((aC (at_+out.length)).tmod 4096).toNat).take (min (4096 -((aC (at_+out.length)).tmod 4096).toNat) (n -out.length).toNat)))
 else some (.inr out)
def fR(g:gY)(at_ most:Int):Option (List UInt8×Bool):=
 if(decide (at_<0)||decide (at_>g.total))||decide (most<0)then some ([],false)
 else
  bn (lO g.known at_) fun u=>
  bt (at_<=u/\u<=g.total)<|
  bn (iter (Jt g.pd at_ (min most (u -at_))) []) fun out=>
  some (out,aC (at_+min most (u -at_))==g.total)
theorem Ru{es:List (AV×AV)}{n:Int}{b:Nat}(h:KI es)(e:fM (.int .i64 n) es=some (.arr b 0 4096 4096)):sW (.int .i64) (.sl false 1 0 []) false (.int .i64 n) (some (.map es))=.prt True (.arr b 0 4096 4096):=by
 show Pl false (ga (.int .i64) (.int .i64 n)=true/\nw (.int .i64) es=true) (uz (.sl false 1 0 []) false (fM (.int .i64 n) es))=_
 rw[e,h.keys]
 show PR.prt (true=true/\true=true) _=_
 simp[uz,Lk,view]
theorem Ay{s0 s:ae}{B:Nat}{g:gY}{a most:Int}{Q:List AV->ae->Prop}(h:eK s0 s B g)(ht:g.total<=2147483647):ok (fR g a most) (fun x=>(x.1=[]->x.2=false->Q [.sl true 1 0 [],.bool false] s)/\(x.1=[]->∀b,s b=none->Q [.arr b 0 0 0,.bool x.2] (s.set b (.cells [])))/\∀r s',Sub s s'->fB s' r x.1->Q [iG r x.1.length,.bool x.2] (iw s' r x.1))->FN prog 71 [.ref B 0,.int .i64 a,.int .i64 most] s Q:=by
 intro hh
 refine FN.ji (FO Bq rfl rfl ?_)
 rw[rU]
 conv in dec _=>reduce
 simp -implicitDefEqProofs only[go_sem,Nat.reduceBEq,Nat.reduceAdd,Nat.reduceMul,Nat.reduceLeDiff,Nat.reduceEqDiff,Nat.reduceBNe,UInt8.reduceToNat,UInt32.reduceToNat]
 refine mC h ?_
 obtain⟨cs,hs,zF⟩:=h.setAt
 obtain⟨q1,q2,M,es,q3,q4,q5,q6,q7,q8⟩:=id h
 revert hh
 rw[fR]
 simp -implicitDefEqProofs only[go_sem,Nat.reduceBEq,Nat.reduceAdd,Nat.reduceMul,Nat.reduceLeDiff,Nat.reduceEqDiff,Nat.reduceBNe,UInt8.reduceToNat,UInt32.reduceToNat,q3]
 rintro⟨w1,w2⟩
 refine⟨fun hc=>⟨s,Sub.refl s,(w1 hc).1 trivial trivial⟩,fun hc=>?_⟩
 obtain⟨u,hu,⟨hu1,hu2⟩,hh⟩:=w2 hc
 clear w1 w2
 have hc1:0<=a/\a<=g.total/\0<=most:=by simp at hc;omega
 refine yT hs ⟨u,hu,?_⟩
 simp -implicitDefEqProofs only[go_sem,Nat.reduceBEq,Nat.reduceAdd,Nat.reduceMul,Nat.reduceLeDiff,Nat.reduceEqDiff,Nat.reduceBNe,UInt8.reduceToNat,UInt32.reduceToNat,q3]
 rw[ar (n:=u -a) (by omega) (by omega)]
 generalize hn:min most (u -a)=n at hh⊢
 have hn0:0<=n/\a+n<=g.total:=by omega
 revert hh
 refine fun hh=>⟨Int.le_refl 0,hn0.1,by unfold room;omega,fun b hb=>?_⟩
 by_cases hz:n=0
 ·subst hz
  revert hh
  refine kR (fun out τ=>out=[]/\τ=⟨[(0,.ref B 0),(1,.int .i64 a),(8,.int .i64 0),(9,.arr b 0 0 0)],[],s.set b (.cells [])⟩) ⟨rfl,rfl⟩ ?_
  rintro J out τ ⟨rfl,rfl⟩
  have nB:B≠b:=fun e=>by rw[<-e,q3]at hb;cases hb
  have p3:(s.set b (.cells [])) B=_:=(ai nB).trans q3
  rw[Jt]
  simp -implicitDefEqProofs only[go_sem,Nat.reduceBEq,Nat.reduceAdd,Nat.reduceMul,Nat.reduceLeDiff,Nat.reduceEqDiff,Nat.reduceBNe,UInt8.reduceToNat,UInt32.reduceToNat,p3]
  rintro⟨_,w2⟩
  exact⟨fun h=>(by simp at h),fun h=>⟨_,Sub.refl _,(w2 h).2.1 trivial b hb⟩⟩
 revert hh
 refine kR (fun out τ=>(out.length:Int)<=n/\∃(s':ae)(r:cN),τ=⟨[(0,.ref B 0),(1,.int .i64 a),(8,.int .i64 n),(9,iG r out.length)],[],iw s' r out⟩/\Sub s s'/\fB s' r out) ⟨by simp;omega,s,some (b,n.toNat,flat (List.replicate n.toNat (0:UInt8))),rfl,Sub.refl s,(show fB s (some (b,n.toNat,flat (List.replicate n.toNat (0:UInt8)))) ([]:List UInt8) from⟨hb,by omega,by simp,by show((flat ([]:List UInt8))++flat (List.replicate n.toNat (0:UInt8))).length=_;rw[px,List.nil_append,aA,List.length_replicate],aN _⟩)⟩ ?_
 rintro J out τ ⟨hl,s',r,rfl,jF,hok⟩
 have p3:=jf hok (jF _ _ q3)
 have p5:=jf hok (jF _ _ q5)
 rw[Jt]
 simp -implicitDefEqProofs only[go_sem,Nat.reduceBEq,Nat.reduceAdd,Nat.reduceMul,Nat.reduceLeDiff,Nat.reduceEqDiff,Nat.reduceBNe,UInt8.reduceToNat,UInt32.reduceToNat,p3,p5]
 rintro⟨w1,w2⟩
 refine⟨fun hc=>⟨by decide,by decide,?_⟩,fun hc=>?_⟩
 ·obtain⟨QS,w1⟩:=w1 hc
  have hc':(out.length:Int)<n:=by simpa using hc
  have wA:aC (a+out.length)=a+out.length:=ar (by omega) (by omega)
  rw[wA]at QS w1⊢
  have hm:0<=(a+(out.length:Int)).tmod 4096:=Int.tmod_nonneg _ (by omega)
  have hm2:(a+(out.length:Int)).tmod 4096<4096:=Int.tmod_lt_of_pos _ (by decide)
  have q7':=q7 (aC ((a+(out.length:Int)).tdiv 4096))
  cases hmk:g.pd (aC ((a+(out.length:Int)).tdiv 4096))with
  |none=>rw[hmk]at QS;cases QS
  |some c=>
   rw[hmk]at q7' w1
   obtain⟨c1,b',c2,c3,c4⟩:=q7'
   rw[Ru q6 c2]
   simp -implicitDefEqProofs only[go_sem,Nat.reduceBEq,Nat.reduceAdd,Nat.reduceMul,Nat.reduceLeDiff,Nat.reduceEqDiff,Nat.reduceBNe,UInt8.reduceToNat,UInt32.reduceToNat]
   rw[ar (n:=n -out.length) (by omega) (by omega)]
   generalize hT:(a+(out.length:Int)).tmod 4096=T at hm hm2 w1⊢
   refine⟨⟨hm,by omega,by omega⟩,⟨by omega,by omega,by omega⟩,?_⟩
   have hnb:iw s' r out b'=some (.cells (flat c)):=jf hok (jF _ _ c4)
   have hf:(flat c).length=4096:=by rw[aA,c1];rfl
   have e1:(min ((4096 -T).toNat:Int) (n -out.length)).toNat=min (4096 -T.toNat) (n -out.length).toNat:=by omega
   rw[e1,AE (by omega),JK hnb (by omega)]
   have W8:=kK c 1 T.toNat (min (4096 -T.toNat) (n -out.length).toNat) rfl
   rw[Nat.mul_one]at W8
   rw[W8,aN]
   have hxl:((c.drop T.toNat).take (min (4096 -T.toNat) (n -out.length).toNat)).length=min (4096 -T.toNat) (n -out.length).toNat:=by rw[List.length_take,List.length_drop];omega
   have acT:=HC (E:=?_) (d:=?_) (K:=?_) (by':=1) (z:=(0:UInt8)) (x:=(c.drop T.toNat).take (min (4096 -T.toNat) (n -out.length).toNat)) (s:=s') (r:=r) (l:=out) (sz:=1) ?_ hok rfl (by rw[hxl];omega) (by rw[hxl];unfold room;omega) ?_
   ·rw[hxl]at acT
    exact acT
   ·rfl
   ·intro s2 r' g1 g2
    simp -implicitDefEqProofs only[go_sem,Nat.reduceBEq,Nat.reduceAdd,Nat.reduceMul,Nat.reduceLeDiff,Nat.reduceEqDiff,Nat.reduceBNe,UInt8.reduceToNat,UInt32.reduceToNat]
    refine w1 _ ⟨?_,s2,r',rfl,fun b o hb=>g1 b o (jF b o hb),g2⟩
    have ag4:(List.take (min (4096 -T.toNat) (n -out.length).toNat) (List.drop T.toNat ((some c).getD []))).length=min (4096 -T.toNat) (n -out.length).toNat:=hxl
    rw[ag4]
    omega
 ·have w2:=(w2 hc).2.2 r s' jF hok
  exact⟨_,Sub.refl _,w2⟩
theorem Vy{G:Gh}{w:World}{s s2:ae}{n sz:Nat}{cs:List AV}{x:Bool}{v:Value}{r:List AV}(hg:cq G w)(hs:a8 G w s)(hl2:cs.length=n*sz)(hvw:views cs=cs)
 (h:(∃b cap sp,r=[.arr b 0 n cap,.bool x]/\s b=some (.cells (cs++sp))/\0<cap/\n<=cap/\(cs++sp).length=cap*sz/\Sub s2 (s.del b))\/(n=0/\cs=[]/\Sub s2 s/\∃b,r=[.arr b 0 0 0,.bool x]))(hr:mB G w r v):
 ∃G2,ma G G2/\cq G2 w/\a8 G2 w s2/\mB G2 w [.sl true sz n cs,.bool x] v:=by
 have two:∀{a:AV}{v:Value},mB G w [a,.bool x] v->∃y0:Value,v=.tuple #[y0,.bool x]/\VR w G.R a y0/\dn G w (.res 0) a y0:=by
  intro a v hr
  obtain⟨ys,rfl,hz,hc⟩:=hr
  have h2:ys.size=2:=hz
  have e0:=hc 0 a ys[0] rfl (by simp)
  have e1:=hc 1 (.bool x) ys[1] rfl (by simp)
  have e2:=VR.gK e1.1
  refine⟨ys[0],?_,e0.1,e0.2⟩
  congr 1
  apply Array.ext
  ·simp[h2]
  ·intro i h3 h4
   match i,h3 with
   |0,_=>rfl
   |1,_=>exact e2
   |i+2,h3=>omega
 have fin:∀{G2:Gh}{y0:Value},mB G2 w [.sl true sz n cs] y0->mB G2 w [.sl true sz n cs,.bool x] (.tuple #[y0,.bool x]):=by
  intro G2 y0 h
  refine⟨_,rfl,rfl,fun j a y hj hy=>?_⟩
  match j,hj with
  |0,hj=>cases hj;cases hy;exact h
  |1,hj=>cases hj;cases hy;exact⟨.bool _,trivial⟩
 rcases h with⟨b,cap,sp,rfl,hb,hc,hn,hl,jF⟩|⟨rfl,rfl,jF,b,rfl⟩
 ·obtain⟨y0,rfl,k0,k0'⟩:=two hr
  obtain⟨G2,k1,k2,k3,k4⟩:=M4 (v:=y0) hs hg hb hc hn hl hl2 hvw ⟨k0,k0'⟩
  exact⟨G2,k1,k2,k3.sub jF,fin k4⟩
 ·obtain⟨y0,rfl,k0,k0'⟩:=two hr
  exact⟨G,ma.refl G,hg,hs.sub jF,fin (Jh (b:=b) ⟨k0,k0'⟩)⟩
theorem Az{s0 s:ae}{B:Nat}{g:gY}{a most:Int}{r:List UInt8×Bool}(h:eK s0 s B g)(ht:g.total<=2147483647)(hr:fR g a most=some r):FE prog 71 [.ref B 0,.int .i64 a,.int .i64 most] s [.sl true 1 r.1.length (flat r.1),.bool r.2] s:=by
 refine FN.conv (Ay (Q:=fun rs t=>rs=[.sl true 1 r.1.length (flat r.1),.bool r.2]/\t=s\/((∃b cap sp,rs=[.arr b 0 r.1.length cap,.bool r.2]/\t b=some (.cells (flat r.1++sp))/\0<cap/\r.1.length<=cap/\(flat r.1++sp).length=cap*1/\Sub s (t.del b))\/(r.1.length=0/\flat r.1=[]/\Sub s t/\∃b,rs=[.arr b 0 0 0,.bool r.2]))) h ht ⟨r,hr,fun e1 e2=>?_,fun e1 b hb=>?_,fun r' s' h1 h2=>?_⟩) fun rs t hq G w v hg hs hv=>?_
 ·rw[e1,e2];exact .inl ⟨rfl,rfl⟩
 ·rw[e1];exact .inr (.inr ⟨rfl,rfl,(Sub.refl s).set hb,b,rfl⟩)
 ·cases r' with
  |none=>
   have e:r.1=[]:=h2
   rw[e];exact .inr (.inr ⟨rfl,rfl,h1,0,rfl⟩)
  |some x=>
   obtain⟨b,cap,sp⟩:=x
   obtain⟨k1,k2,k3,k4,k5⟩:=h2
   refine .inr (.inl ⟨b,cap,sp,rfl,bD,k2,k3,k4,?_⟩)
   show Sub s ((s'.set b _).del b)
   rw[mE k1];exact h1
 ·rcases hq with⟨rfl,rfl⟩|hq
  ·exact⟨_,_,G,⟨rfl,rfl⟩,ma.refl G,hg,hs,hv⟩
  ·obtain⟨G2,k1,k2,k3,k4⟩:=Vy hg hs (by rw[aA];rfl) (aN _) hq hv
   exact⟨_,_,G2,⟨rfl,rfl⟩,k1,k2,k3,k4⟩
def uw:IC:=dec 0x13fa65ed48ae291c64cf6dd7a030fc83adf1008c2069d5e55c95bfa8e0ed2633b953df6d0334bb0a5216a01a811b7ad2222d0efc1fda60bc28ba97c88b7e405d499eb9c05702db3f664fa1d2a72ac0aac87bda6f5318e2ab07b6ec9ed16f0f3fbd510c124dce47322c9d59de5bf3232ff1b3e5b3bbfbaebdd5cba9953b1df68ad02703030e4da8c279bb137fc631ed3300da6e70e1dc62d3ad30c160d21f93bac6fad7cf4702d7bbb9ef76636d5896f9938a8d891f14a2246f9ff2a843f432df715dca86cd234e8c491481919df04d2026314bb345d8783db68d6481f28bbb89c5def3ee8a3c4b422b4efb38699ae3a3a34c16f30a34e914678ee3a5fec82c2de30222c02e7c5bd7069e809b6f40084ed
theorem Dr:eH prog 38 56 [⟨4,true,none⟩,⟨5,false,some (6,true)⟩,⟨6,true,none⟩,⟨7,true,none⟩] uw=true:=by kernel_rfl
abbrev X5(x:aL):AV:=.agg [.int .i64 x.V.Kind,.int .i64 x.V.N,.str x.V.S.b,.sl false 4 x.V.L.length (flat x.V.L),.bool x.Stream,.str x.Data.b]
def vD(g:gY)(a:Int):Int->Option (Int⊕(Int×aL×Int×Int)):=fun most=>
 bn (fR g a most) fun x=>
 bn (cW x.1 0 x.2) fun y=>
 if(y.2.2.2==6)&&((x.1.length:Int)==most)then some (.inl (aC (most*2)))
 else if y.2.2.2==6 then bn (lO g.known (max 0 a)) fun u=>some (.inr (0,y.2.1,min g.total u,y.2.2.2))
 else if y.2.2.2 !=0 then some (.inr (0,y.2.1,0,18))
 else some (.inr (y.1,y.2.1,0,y.2.2.2))
def iY(g:gY)(a:Int):Option (Int×aL×Int×Int):=iter (vD g a) 4096
theorem De{s0 s:ae}{B:Nat}{g:gY}{a:Int}{Q:List AV->ae->Prop}(h:eK s0 s B g)(ht:g.total<=2147483647):ok (iY g a) (fun r=>Q [.int .i64 r.1,X5 r.2.1,.int .i64 r.2.2.1,.int .i64 r.2.2.2] s)->FN prog 38 [.ref B 0,.int .i64 a] s Q:=by
 intro hh
 refine FN.ji (FO Dr rfl rfl ?_)
 rw[uw]
 conv in dec _=>reduce
 revert hh
 rw[iY]
 simp -implicitDefEqProofs only[go_sem,seval]
 refine kR (fun most τ=>τ=⟨[(0,.ref B 0),(1,.int .i64 a),(5,.loc [.int .i64 0,.int .i64 0,.str [],.sl true 4 0 [],.bool false,.str []]),(8,.int .i64 most)],[],s⟩) rfl ?_
 rintro J most τ rfl
 rw[vD]
 simp -implicitDefEqProofs only[go_sem,seval]
 rintro⟨x,hx,hh⟩
 refine FE.app (Az h ht hx) ?_
 refine⟨rfl,?_⟩
 simp -implicitDefEqProofs only[go_sem,seval]
 obtain⟨y,hy,hh⟩:=hh
 refine FE.app (A5 hy) ?_
 refine⟨rfl,?_⟩
 revert hh
 simp -implicitDefEqProofs only[go_sem,seval]
 rintro⟨c1,c2⟩
 refine⟨fun hc=>c1 hc _ rfl,fun hc=>⟨fun hd=>?_,fun hd=>⟨fun he=>⟨s,Sub.refl s,((c2 hc).2 hd).1 he⟩,fun he=>⟨s,Sub.refl s,((c2 hc).2 hd).2 he⟩⟩⟩⟩
 obtain⟨u,hu,hq⟩:=(c2 hc).1 hd
 refine⟨[.int .i64 (min g.total u)],rfl,qP h ⟨u,hu,rfl,rfl⟩,?_⟩
 simp -implicitDefEqProofs only[go_sem,seval]
 exact⟨s,Sub.refl s,hq⟩
end Go.AB
end
section
set_option maxRecDepth 16000
namespace Go.AB
open Go
open Go.Proofs.Tryz (prog)
attribute[-go_sem] cy cU bQ cw
structure c6 where
 cH:(List Int)
 oF:Int
instance:aP c6:=⟨2,fun x=>[.sl false 1 x.cH.length (flat x.cH),.int .i64 x.oF],(c6.mk [] 0),by decide,fun _=>rfl,fun _=>rfl⟩
def jT(t_0:c6)(n_1:Int):Option (Int×Bool):=
 bt ((!((decide (n_1<1))||(decide (n_1>(t_0.cH.length:Int)))))=true->0<=aC (n_1 -1)/\aC (n_1 -1)<t_0.cH.length)<|
 if((decide (n_1<1))||(decide (n_1>(t_0.cH.length:Int))))||(decide (ix t_0.cH (aC (n_1 -1))<0))then
  some (0,false)
 else
  bt (0<=aC (n_1 -1)/\aC (n_1 -1)<t_0.cH.length)<|
  some (ix t_0.cH (aC (n_1 -1)),true)
theorem CJ{t_0 n_1}:FF 36 [.agg [.sl false 1 t_0.cH.length (flat t_0.cH),.int .i64 t_0.oF],.int .i64 n_1] (jT t_0 n_1) fun r=>[.int .i64 r.1,.bool r.2]:=by
 intro s Q
 exact FC 30 [⟨4,true,none⟩,⟨5,true,none⟩] 0x9663bcea1b12f34814ac4175d269e5aaa321e437d630914f767b64ad2d72b2d89f99ed8c4289332e62bf3c0fe964a0b586172bad37d406731e7cc6f5048dfc4cf6bcb14595aee5014f4b3958eb0c510a93bbf8572eeb76bb300db200c5f90981dc jT.eq_1
theorem CI{t_0 n_1}{s:ae}{r:Int×Bool}(h:jT t_0 n_1=some r):FE prog 36 [.agg [.sl false 1 t_0.cH.length (flat t_0.cH),.int .i64 t_0.oF],.int .i64 n_1] s [.int .i64 r.1,.bool r.2] s:=CJ ⟨r,h,rfl,rfl⟩
end Go.AB
end
section
set_option maxRecDepth 16000
namespace Go.AB
open Go
open Go.Proofs.Tryz (prog)
attribute[-go_sem] Nat.add_zero mI cE
def Bi:IC:=dec 0xd8c69249fa44498fbffd2ef97d2d0af4f1b6e91dbfd05ac720e68824473a
theorem K0:eH prog 39 12 [⟨2,true,none⟩] Bi=true:=by kernel_rfl
def wV:IC:=dec 0x116198e47d8eee19fb57feef6c64665940a4c4c64ae98970dbe5a534d213cc00473a
theorem Gn:eH prog 31 10 [⟨2,true,none⟩] wV=true:=by kernel_rfl
def uv:IC:=dec 0x116198e47d8ef7f9f32b2c4d2de4665940a4c4c64ae98970dbe5a534d213cc00473a
theorem Dq:eH prog 32 10 [⟨2,true,none⟩] uv=true:=by kernel_rfl
def zc:IC:=dec 0x8a2ab5215a44ce5602d8860d5e30bd490edf2bdf9769b14b12abdae435ae6619839a45c60accf12332a34caa686e07c3f8320fd97e5c5b7bb250db9a91ad28402d9003dfb251eb37e00cf729c
theorem IP:eH prog 10 20 [⟨4,false,some (6,true)⟩,⟨5,true,none⟩,⟨6,true,none⟩] zc=true:=by kernel_rfl
def zd:IC:=dec 0x5489c8e5bdbbfd6b92a041f150eeb0e2860ac3d2f484f604ac27ec54c04ff410aa2ce857089cca1dc
theorem IQ:eH prog 9 13 [⟨4,true,none⟩] zd=true:=by kernel_rfl
def wU:IC:=dec 0x614aa674874176f74b939e94c7b40b615797b605579d20ab2790f0f980cd26a7dfa9596d946b44ebd1777659698309ab0d68e0a2e8bc372002b6300b6b0db5d9cd04ee9f9f4285f13dd24a58fc3d2a142f220da2cbc3383cefcfe30ecc0dc8daeed5285eab984218c042f35b55c4f2c7ae2b8b6b7928501a51b2b69a87cd9c0dffec2fa84eaafddb8f56df34b708fb35cdbaea272f51227c2d5a8aa3f2aace5c942bbfa715c9fa79ee889fddeeeb5b3dbef98b20dfbd0daa852ac4cf1a8d3934042d429d0708caa82ce6fd5fc1362a775f302619a5d866a99a9aa0f77aec18d9a06bedb0c02a5c04e9de281a6ceb1230a71f38229b20d4bd5d74b002d9003dfb251eb37e00cf729c
theorem Gm:eH prog 35 49 [⟨4,false,some (6,true)⟩,⟨5,true,none⟩,⟨6,true,none⟩] wU=true:=by kernel_rfl
def qa(s:ae)(F:Nat)(root count:Int)(c:Nat)(eF:List AV):Prop:=s F=some (.cells [.int .i64 root,.int .i64 count,.fn c [] eF])
theorem uY{s:ae}{F c:Nat}{root count:Int}{eF:List AV}{Q:List AV->ae->Prop}(h:qa s F root count c eF)(hq:Q [.bool true] s):FN prog 39 [.ref F 0] s Q:=by
 have h:s F=some (.cells [.int .i64 root,.int .i64 count,.fn c [] eF]):=h
 refine FN.ji (FO K0 rfl rfl ?_)
 rw[Bi]
 conv in dec _=>reduce
 simp -implicitDefEqProofs only[go_sem,seval,h]
 exact⟨s,Sub.refl s,hq⟩
theorem qm{s:ae}{F c:Nat}{root count:Int}{eF:List AV}{Q:List AV->ae->Prop}(h:qa s F root count c eF)(hq:Q [.int .i64 root] s):FN prog 31 [.ref F 0] s Q:=by
 refine FN.ji (FO Gn rfl rfl ?_)
 rw[wV]
 conv in dec _=>reduce
 simp -implicitDefEqProofs only[go_sem,seval]
 refine uY h ?_
 have h:s F=some (.cells [.int .i64 root,.int .i64 count,.fn c [] eF]):=h
 simp -implicitDefEqProofs only[go_sem,seval,h]
 exact⟨fun h=>h.elim,fun _=>⟨s,Sub.refl s,hq⟩⟩
theorem ug{s:ae}{F c:Nat}{root count:Int}{eF:List AV}{Q:List AV->ae->Prop}(h:qa s F root count c eF)(hq:Q [.int .i64 count] s):FN prog 32 [.ref F 0] s Q:=by
 refine FN.ji (FO Dq rfl rfl ?_)
 rw[uv]
 conv in dec _=>reduce
 simp -implicitDefEqProofs only[go_sem,seval]
 refine uY h ?_
 have h:s F=some (.cells [.int .i64 root,.int .i64 count,.fn c [] eF]):=h
 simp -implicitDefEqProofs only[go_sem,seval,h]
 exact⟨fun h=>h.elim,fun _=>⟨s,Sub.refl s,hq⟩⟩
abbrev TAB(t:c6):List AV:=[.sl false 1 t.cH.length (flat t.cH),.int .i64 t.oF]
def Wl(s:ae)(F B:Nat)(t:c6):Prop:=∃tb sb,qa s F t.oF t.cH.length 35 [.ref tb 0,.ref sb 0]/\s tb=some (.cells (TAB t))/\s sb=some (.cells [.ref B 0])
theorem rK{s:ae}{B:Nat}{t:c6}{Q:List AV->ae->Prop}(hq:∀F s',Sub s s'->Wl s' F B t->Q [.ref F 0] s'):FN prog 9 [.ref B 0,.agg (TAB t)] s Q:=by
 refine FN.ji (FO IQ rfl rfl ?_)
 rw[zd]
 conv in dec _=>reduce
 simp -implicitDefEqProofs only[go_sem,seval]
 intro sb hsb tb htb F hF
 have n1:=htb
 rw[eT]at n1
 have n2:=hF
 rw[eT]at n2
 have n3:=n2.2
 rw[eT]at n3
 exact⟨_,Sub.refl _,hq F _ ((((Sub.refl s).set hsb).set htb).set hF) ⟨tb,sb,cg ..,by rw[ai (Ne.symm n2.1),cg],by rw[ai (Ne.symm n3.1),ai (Ne.symm n1.1),cg]⟩⟩
def pY:aL:=⟨⟨0,0,⟨[]⟩,[]⟩,false,⟨[]⟩⟩
def fA(g:gY)(t:c6)(n:Int):Option (aL×Int×Int):=
 bn (jT t n) fun p=>
 if !p.2 then some (pY,0,0)
 else if decide (p.1>=g.total)then some (pY,0,18)
 else bn (iY g p.1) fun r=>
 if r.2.2.2 !=0 then some (pY,r.2.2.1,r.2.2.2)
 else if r.1 !=n then some (pY,0,18)
 else some (r.2.1,0,0)
theorem wE{s0 s:ae}{B tb sb:Nat}{g:gY}{t:c6}{n:Int}{Q:List AV->ae->Prop}(h:eK s0 s B g)(ht:g.total<=2147483647)(h1:s tb=some (.cells (TAB t)))(h2:s sb=some (.cells [.ref B 0])):
 ok (fA g t n) (fun r=>Q [X5 r.1,.int .i64 r.2.1,.int .i64 r.2.2] s)->FN prog 35 [.int .i64 n,.ref tb 0,.ref sb 0] s Q:=by
 intro hh
 refine FN.ji (FO Gm rfl rfl ?_)
 rw[wU]
 conv in dec _=>reduce
 revert hh
 rw[fA]
 simp -implicitDefEqProofs only[go_sem,seval,h1]
 rintro⟨p,hp,c1,c2⟩
 refine FE.app (CI hp) ?_
 refine⟨rfl,?_⟩
 simp -implicitDefEqProofs only[go_sem,seval,h2]
 refine⟨fun hc=>⟨s,Sub.refl s,c1 hc⟩,fun hc=>?_⟩
 have c2:=c2 hc
 refine zu h ?_
 simp -implicitDefEqProofs only[go_sem,seval,h2]
 refine⟨fun hd=>⟨s,Sub.refl s,c2.1 hd⟩,fun hd=>?_⟩
 refine De h ht (aK (c2.2 hd) fun r hr=>?_)
 revert hr
 simp -implicitDefEqProofs only[go_sem,seval]
 exact fun⟨d1,d2⟩=>⟨fun e=>⟨s,Sub.refl s,d1 e⟩,fun e=>⟨fun f=>⟨s,Sub.refl s,(d2 e).1 f⟩,fun f=>⟨s,Sub.refl s,(d2 e).2 f⟩⟩⟩
theorem rJ{s:ae}{F c:Nat}{root count n:Int}{eF:List AV}{Q:List AV->ae->Prop}{r:aL×Int×Int}(h:qa s F root count c eF)(hok:(tJ prog c=true)=True)
 (hv:cF (fun x=>match x with|.c a=>a|_=>.undef) (eF.map .c)=some eF)(hc:FE prog c ([.int .i64 n]++eF) s [X5 r.1,.int .i64 r.2.1,.int .i64 r.2.2] s)(hq:Q [X5 r.1,.int .i64 r.2.1,.int .i64 r.2.2] s):FN prog 10 [.ref F 0,.int .i64 n] s Q:=by
 refine FN.ji (FO IP rfl rfl ?_)
 rw[zc]
 conv in dec _=>reduce
 simp -implicitDefEqProofs only[go_sem,seval]
 refine uY h ?_
 have h:s F=some (.cells [.int .i64 root,.int .i64 count,.fn c [] eF]):=h
 simp -implicitDefEqProofs only[go_sem,seval,h,hok]
 refine⟨fun h=>h.elim,fun _=>FE.app hc ?_⟩
 refine⟨rfl,?_⟩
 simp -implicitDefEqProofs only[go_sem,seval]
 exact⟨s,Sub.refl s,hq⟩
end Go.AB
end
section
set_option maxRecDepth 16000
namespace Go.AB
open Go
open Go.Proofs.Tryz (prog)
attribute[-go_sem] cy cU bQ cw
def dw:Nat->ab->ab->Option (Int)
 |0,_,_=>none
 |fuel+1,a_0,b_1=>
  if(decide (a_0.Kind<b_1.Kind))||((a_0.Kind==b_1.Kind)&&((decide (a_0.N<b_1.N))||((a_0.N==b_1.N)&&(Op.bytesLess a_0.S.b b_1.S.b))))then
   some (-1)
  else
   if((a_0.Kind !=b_1.Kind)||(a_0.N !=b_1.N))||(!(a_0.S.b==b_1.S.b))then
    some 1
   else
    Dt (
     rA (
      iter (fun(k4:Int)=>
       if(decide (k4<(a_0.L.length:Int)))&&(decide (k4<(b_1.L.length:Int)))then
        bt (0<=k4/\k4<a_0.L.length)<|
        bt (0<=k4/\k4<b_1.L.length)<|
        bn (dw fuel (ix a_0.L k4) (ix b_1.L k4)) fun r8=>
        if r8 !=0 then
         some (.inr (.inr r8))
        else
         some (.inl (aC (k4+1)))
       else
        some (.inr (.inl ()))) 0) (fun(_:Unit)=>
      some (.inl ()))
     (fun(t7:Int)=>some (.inr t7))) (fun(_:Unit)=>
     if decide ((a_0.L.length:Int)<(b_1.L.length:Int))then
      some (-1)
     else
      if decide ((a_0.L.length:Int)>(b_1.L.length:Int))then
       some 1
      else
       some 0)
    (fun(t3:Int)=>some t3)
theorem yD{fuel:Nat}:∀{a_0:ab}{b_1:ab}{s:ae}{Q:List AV->ae->Prop},ok (dw fuel a_0 b_1) (fun r=>Q [.int .i64 r] s)->FN prog 74 [.agg [.int .i64 a_0.Kind,.int .i64 a_0.N,.str a_0.S.b,.sl false 4 a_0.L.length (flat a_0.L)],.agg [.int .i64 b_1.Kind,.int .i64 b_1.N,.str b_1.S.b,.sl false 4 b_1.L.length (flat b_1.L)]] s Q:=by
 induction fuel with
 |zero=>intros;rename_i h;rw[dw]at h;exact absurd h (by rw[ok_none];exact fun h=>h)
 |succ fuel ih=>
 have ag6:∀{a_0:ab}{b_1:ab}{s:ae}{r:Int},dw fuel a_0 b_1=some r->FE prog 74 [.agg [.int .i64 a_0.Kind,.int .i64 a_0.N,.str a_0.S.b,.sl false 4 a_0.L.length (flat a_0.L)],.agg [.int .i64 b_1.Kind,.int .i64 b_1.N,.str b_1.S.b,.sl false 4 b_1.L.length (flat b_1.L)]] s [.int .i64 r] s:=fun h=>ih ⟨_,h,rfl,rfl⟩
 intro a_0 b_1 s Q
 refine FR 103 [⟨4,true,none⟩] 0x3092e9c81f0e399f7e88fe50c3f33d15b7647ebe3d1fc3fbb1d5a7e314f34a9eab3dc2b6f893bb09a2925bc865379a624c9f7ab06b6e1b172f60474ad0324525a37f99d059efda4dffc7f7d47a7dc67f6f75ebfea51ed7cbdce1eef3f9fd05f8ff9359b633b6146f7fd620dbbff60e0693e3c440d4522cf4df0bc2ddd8fa960a294bb449aa9eaaf65cbfa7367c472291c2a4a9251c372ca05416c7b103433667ea235d14112341bb2c800926f7ee486bbdc9f890e521b6ea6a30333139325d3143e4b1f052ebc354beebe8887a3035436ef576ca92f7bff0692da4bf28fa01453efa41ff2d3b1d28b1c44dbcac4e6cbd072e740d14518ba7684c56b680f899c3bbb98debf66f9f42798b9bd76214df8fa27e7113a54dedc733392cc0c3c1526293167387a1252c5fa9f737ef65f3ece9be4e92c1df14a659baac65e0f15ad4e2e97867dbaa15252380bad466600b263df7ba1c29653137d9d7600cfe965a03981dc dw.eq_2 ?_
 repeat'(first
  |(with_reducible first|exact dQ|refine cI ?_ ?_|refine er ?_|refine cY (fun _(h:dw fuel (ix a_0.L k4) (ix b_1.L k4)=some _)=>ag6 h) (fun _=>rfl) (fun r8=>?_))
  |((with_reducible refine ed (fun(k4:Int)=>⟨[(2,.loc [.int .i64 a_0.Kind,.int .i64 a_0.N,.str a_0.S.b,.sl false 4 a_0.L.length (flat a_0.L)]),(3,.loc [.int .i64 b_1.Kind,.int .i64 b_1.N,.str b_1.S.b,.sl false 4 b_1.L.length (flat b_1.L)]),(5,.int .i64 k4)],[],s⟩) ?_ ?_);(first|exact rfl|simp -implicitDefEqProofs only[go_sem,seval]);rintro J k4)
  |((with_reducible refine fF (fun(_:Unit)=>⟨[(2,.loc [.int .i64 a_0.Kind,.int .i64 a_0.N,.str a_0.S.b,.sl false 4 a_0.L.length (flat a_0.L)]),(3,.loc [.int .i64 b_1.Kind,.int .i64 b_1.N,.str b_1.S.b,.sl false 4 b_1.L.length (flat b_1.L)])],[],s⟩) (fun J=>?_) ?_);rotate_left;rintro _)
  |simp -implicitDefEqProofs only[go_sem,seval])
def lF(a_0:ab)(b_1:ab):Option (Bool):=
 bn (dw TJ a_0 b_1) fun r1=>
 some (r1==0)
theorem DD{a_0 b_1}:FF 42 [.agg [.int .i64 a_0.Kind,.int .i64 a_0.N,.str a_0.S.b,.sl false 4 a_0.L.length (flat a_0.L)],.agg [.int .i64 b_1.Kind,.int .i64 b_1.N,.str b_1.S.b,.sl false 4 b_1.L.length (flat b_1.L)]] (lF a_0 b_1) fun r=>[.bool r]:=by
 intro s Q
 refine FR 9 [⟨4,true,none⟩] 0x11be1a5bec161636df194054487621f374f101cfe965a03981dc lF.eq_1 ?_
 repeat'(first
  |with_reducible refine aQ (fun _(h:dw TJ a_0 b_1=some _)=>(kc yD h:)) (fun r1=>?_)
  |simp -implicitDefEqProofs only[go_sem,seval])
def j7(a_0:aL)(b_1:aL):Option (Bool):=
 bn (lF a_0.V b_1.V) fun r1=>
 some ((r1&&((a_0.Stream==b_1.Stream)!=false))&&(a_0.Data.b==b_1.Data.b))
theorem DE{a_0 b_1}:FF 12 [.agg [.int .i64 a_0.V.Kind,.int .i64 a_0.V.N,.str a_0.V.S.b,.sl false 4 a_0.V.L.length (flat a_0.V.L),.bool a_0.Stream,.str a_0.Data.b],.agg [.int .i64 b_1.V.Kind,.int .i64 b_1.V.N,.str b_1.V.S.b,.sl false 4 b_1.V.L.length (flat b_1.V.L),.bool b_1.Stream,.str b_1.Data.b]] (j7 a_0 b_1) fun r=>[.bool r]:=by
 intro s Q
 refine FR 24 [⟨4,true,none⟩] 0x3cb2be4b4795cd070448797c98ccf2301c5c3a12bbca41c0b1c27566bb234258e4da8e72284ebc0557933a5116a4f2546973c59357f101d155e5af6981dc j7.eq_1 ?_
 repeat'(first
  |with_reducible refine aQ (fun _(h:lF a_0.V b_1.V=some _)=>(kc DD h:)) (fun r1=>?_)
  |simp -implicitDefEqProofs only[go_sem,seval])
theorem uE{a_0 b_1}{s:ae}{r:Bool}(h:j7 a_0 b_1=some r):FE prog 12 [.agg [.int .i64 a_0.V.Kind,.int .i64 a_0.V.N,.str a_0.V.S.b,.sl false 4 a_0.V.L.length (flat a_0.V.L),.bool a_0.Stream,.str a_0.Data.b],.agg [.int .i64 b_1.V.Kind,.int .i64 b_1.V.N,.str b_1.V.S.b,.sl false 4 b_1.V.L.length (flat b_1.V.L),.bool b_1.Stream,.str b_1.Data.b]] s [.bool r] s:=DE ⟨r,h,rfl,rfl⟩
end Go.AB
end
section
set_option maxRecDepth 16000
namespace Go.AB
open Go
open Go.Proofs.Tryz (prog)
attribute[-go_sem] Nat.add_zero mI cE
structure sE where
 mA:(List aL)
 oF:Int
instance:aP sE:=⟨2,fun x=>[.sl false 6 x.mA.length (flat x.mA),.int .i64 x.oF],(sE.mk [] 0),by decide,fun _=>rfl,fun _=>rfl⟩
def Bh:IC:=dec 0x3631a48fe1033cf261c02bf635f475617f10bf0b3034eadc81a9d8dd58aa26f4c82164b5b
theorem KZ:eH prog 30 11 [⟨2,true,none⟩] Bh=true:=by kernel_rfl
def ze:IC:=dec 0x2e9b51cda3c3fdad75b1b7aa932984f7fa3c746bc4324abf208aa5ddf3e22113338e5ffae3885983fb15475aa459820321f82cffe2248800c3ea68c98752cad77280a78d13a00c8aa0b949de00bea7f2c0128402d9003dfb251eb37e00cf543c
theorem IS:eH prog 67 22 [⟨3,false,some (6,true)⟩,⟨4,true,none⟩,⟨5,true,none⟩] ze=true:=by kernel_rfl
abbrev DOC(d:sE):List AV:=[.sl false 6 d.mA.length (flat d.mA),.int .i64 d.oF]
theorem KB{s:ae}{d:sE}{Q:List AV->ae->Prop}(hq:∀F db s',Sub s s'->qa s' F d.oF d.mA.length 67 [.ref db 0]->s' db=some (.cells (DOC d))->Q [.ref F 0] s'):FN prog 30 [.agg (DOC d)] s Q:=by
 refine FN.ji (FO KZ rfl rfl ?_)
 rw[Bh]
 conv in dec _=>reduce
 simp -implicitDefEqProofs only[go_sem,seval]
 intro db hdb F hF
 have n2:=hF
 rw[eT]at n2
 exact⟨_,Sub.refl _,hq F db _ (((Sub.refl s).set hdb).set hF) (cg ..) (by rw[ai (Ne.symm n2.1),cg])⟩
def A3(d:sE)(n:Int):Option (aL×Int×Int):=if decide (n<1)||decide (n>(d.mA.length:Int))then some (pY,0,0)else some (ix d.mA (n -1),0,0)
theorem Io{s:ae}{d:sE}{db:Nat}{n:Int}{Q:List AV->ae->Prop}(hl:d.mA.length<=2147483647)(h:s db=some (.cells (DOC d))):ok (A3 d n) (fun r=>Q [X5 r.1,.int .i64 r.2.1,.int .i64 r.2.2] s)->FN prog 67 [.int .i64 n,.ref db 0] s Q:=by
 intro hh
 refine FN.ji (FO IS rfl rfl ?_)
 rw[ze]
 conv in dec _=>reduce
 revert hh
 rw[A3]
 simp -implicitDefEqProofs only[go_sem,seval,h]
 rintro⟨c1,c2⟩
 refine⟨fun hc=>⟨s,Sub.refl s,c1 hc⟩,fun hc=>?_⟩
 have hn:1<=n/\n<=d.mA.length:=by simp at hc;omega
 have c2:=c2 hc
 have hw:aC (n -1)=n -1:=ar (by omega) (by omega)
 rw[hw]
 exact⟨by omega,s,Sub.refl s,c2⟩
theorem eK.sub{s0 s s':ae}{B:Nat}{g:gY}(h:eK s0 s B g)(hs:Sub s s'):eK s0 s' B g:=by
 obtain⟨h1,h2,M,es,h3,h4,h5,h6,h7,h8⟩:=h
 exact⟨fun b o hb=>hs b o (h1 b o hb),h2,M,es,hs _ _ h3,h4,hs _ _ h5,h6,fun k=>(h7 k).mono fun b l hb=>hs b _ hb,h8⟩
structure L1 where
 B:Nat
 aex:Int
 get:Int->Option (aL×Int×Int)
def L2(s:ae)(f:L1):Prop:=∀s',Sub s s'->FE prog 31 [.ref f.B 0] s' [.int .i64 f.aex] s'/\∀n r,f.get n=some r->FE prog 10 [.ref f.B 0,.int .i64 n] s' [X5 r.1,.int .i64 r.2.1,.int .i64 r.2.2] s'
def NB(f:L1)(n:Int):Option (aL×Int×Int):=f.get n
theorem vV{f:L1}{n:Int}{s:ae}{r:aL×Int×Int}(hv:L2 s f)(h:NB f n=some r):FE prog 10 [.ref f.B 0,.int .i64 n] s [X5 r.1,.int .i64 r.2.1,.int .i64 r.2.2] s:=(hv s (Sub.refl s)).2 n r h
def Zv(B:Nat)(g:gY)(t:c6):L1:=⟨B,t.oF,fA g t⟩
theorem M1{s0 s:ae}{F B:Nat}{g:gY}{t:c6}(h:eK s0 s B g)(ht:g.total<=2147483647)(hN:Wl s F B t):L2 s (Zv F g t):=by
 obtain⟨tb,sb,hF,htb,hsb⟩:=hN
 intro s' hs
 have h':qa s' F t.oF t.cH.length 35 [.ref tb 0,.ref sb 0]:=hs _ _ hF
 refine⟨qm h' ⟨rfl,rfl⟩,fun n r hr=>?_⟩
 exact rJ h' (eq_true (by kernel_rfl)) rfl (wE (h.sub hs) ht (hs _ _ htb) (hs _ _ hsb) ⟨r,hr,rfl,rfl⟩) ⟨rfl,rfl⟩
end Go.AB
end
section
set_option maxRecDepth 100000
namespace Go.AB
open Go
def Tt:List UInt8:=[49,32,48,32,111,98,106,32,55,32,101,110,100,111,98,106,32]
def Ws:Hr:=nS (fun _=>none) 0 (lY NA 0 Tt)
def g17:gY:=⟨17,[⟨0,17⟩],Ws⟩
def seven:aL:=⟨⟨2,7,⟨[]⟩,[]⟩,false,⟨[]⟩⟩
theorem Tp:cW Tt 0 true=some (1,seven,16,0):=by kernel_rfl
theorem V9:jT ⟨[0],1⟩ 1=some (0,true):=by kernel_rfl
theorem Wb:fR g17 0 4096=some (Tt,true):=by
 unfold fR
 rw[if_neg (by decide)]
 refine ag (a:=(17:Int)) (by kernel_rfl) ?_
 refine aD (by decide) ?_
 refine ag (a:=Tt) (by kernel_rfl) ?_
 rfl
theorem aaM:gX ⟨17,[],fun _=>none⟩ 0 Tt=some (g17,0):=by
 unfold gX
 rw[if_neg (by decide),if_neg (by decide)]
 refine ag (a:=[⟨0,17⟩]) (by kernel_rfl) ?_
 refine ag (a:=Ws) (by kernel_rfl) ?_
 exact ag (a:=[⟨0,17⟩]) (show vY [] ⟨0,aC (0+(Tt.length:Int))⟩=_ by kernel_rfl) rfl
theorem afa:iY g17 0=some (1,seven,0,0):=by
 have h:vD g17 0 4096=some (.inr (1,seven,0,0)):=by
  unfold vD
  refine ag (a:=(Tt,true)) Wb ?_
  refine ag (a:=(1,seven,16,0)) Tp ?_
  rfl
 have r:CF (vD g17 0) 1 4096 (1,seven,0,0):=.stop h
 exact r.iter (by decide)
theorem Wa:fA g17 ⟨[0],1⟩ 1=some (seven,0,0):=by
 unfold fA
 refine ag (a:=(0,true)) V9 ?_
 rw[if_neg (by decide),if_neg (by decide)]
 refine ag (a:=(1,seven,0,0)) afa ?_
 rfl
theorem aaL:A3 ⟨[seven],1⟩ 1=some (seven,0,0):=by kernel_rfl
end Go.AB
end
section
set_option maxRecDepth 16000
namespace Go.AB
open Go
open Go.Proofs.Tryz (prog)
attribute[-go_sem] Nat.add_zero mI cE
def rV:IC:=dec 0x76001b1f1a1c20cc3f41fd40284862dbd9b1ac0e5b6b1a1bfe1ad07aa66151c785947746ccf2f00e5ded24cadab63891d13b4a3a47540de963a520c1da7eea8ba9f50ca4e72ead98e2352ed84a2fbc788f319a66a2df75505ddc6241af28421277f38ad4b98763afc6e776bb4e5469fc5367a8a2d8a1a63eeddaad2a75d82ba8ddcf6982567421d1beed1dd6237d95ad62ff5ec83fef2cac9220bbe5a14f8b6d0ae4ec26847eca4c5ca2e17b1eeea24ccd15c94edc8408b0a6833b074224adfc6aa2473c13c738bc764fc1a171da936b41644bc2a4234ceed44d251828ed7f003eead186457eadb3c33f1644b8a9b505e1640e71c7d01b1a0ec171dddb840acb895f17718c0169d5b1e3b265e737ab9b34626fffbcab9b4706d850e468b1e8ef18368b18a0768c3f9bb4be06f2b2f22bc6d36b7e57b6b179de133543817b05873b99414719bc695df34dffa5c844c0cd3cf2ae9a8093af8791c1ba15addaddaddaddaddaddaddaddaddaddaddaddaddaddaddade1a00d98eece2d0b640a7a
theorem Br:eH prog 7 78 [⟨0,true,none⟩] rV=true:=by kernel_rfl
theorem B8:seven.V.N=7:=rfl
theorem nO{s:ae}:FE prog 7 [] s [.bool true] s:=by
 refine FN.ji (FO Br rfl rfl ?_)
 rw[rV]
 conv in dec _=>reduce
 simp -implicitDefEqProofs only[go_sem,seval]
 refine gC (as1:=[.sl false 1 Tt.length (flat Tt)]) (by rfl) (qZ (l:=Tt) (by decide) ⟨(g17,0),aaM,fun B s1 h1=>?_⟩)
 simp -implicitDefEqProofs only[go_sem,seval]
 refine gC (as1:=[.ref B 0,.agg (TAB ⟨[0],1⟩)]) (by rfl) (rK (t:=⟨[0],1⟩) fun F s2 hs2 hN=>?_)
 obtain⟨tb,sb,hF,htb,hsb⟩:=hN
 simp -implicitDefEqProofs only[go_sem,seval]
 refine rJ (r:=(seven,0,0)) hF (eq_true (by kernel_rfl)) rfl (wE (h1.sub hs2) (by decide) htb hsb ⟨(seven,0,0),Wa,rfl,rfl⟩) ?_
 simp -implicitDefEqProofs only[go_sem,seval]
 refine gC (as1:=[.agg (DOC ⟨[seven],1⟩)]) (by rfl) (KB (d:=⟨[seven],1⟩) fun F2 db s3 hs3 hF2 hdb=>?_)
 simp -implicitDefEqProofs only[go_sem,seval]
 refine rJ (r:=(seven,0,0)) hF2 (eq_true (by kernel_rfl)) rfl (Io (by decide) hdb ⟨(seven,0,0),aaL,rfl,rfl⟩) ?_
 simp -implicitDefEqProofs only[go_sem,seval,B8,beq_self_eq_true,Bool.and_self,Bool.and_true]
 have hF':qa s3 F 1 1 35 [.ref tb 0,.ref sb 0]:=hs3 _ _ hF
 have acP:qa s3 F2 1 1 67 [.ref db 0]:=hF2
 have jF:Sub s s3:=fun b o hb=>hs3 b o (hs2 b o (h1.1 b o hb))
 refine⟨fun _=>qm hF' ?_,fun h=>(by cases h)⟩
 simp -implicitDefEqProofs only[go_sem,seval,B8,beq_self_eq_true,Bool.and_self,Bool.and_true]
 refine⟨fun _=>qm acP ?_,fun h=>(by cases h)⟩
 simp -implicitDefEqProofs only[go_sem,seval,B8,beq_self_eq_true,Bool.and_self,Bool.and_true]
 refine⟨fun _=>ug hF' ?_,fun h=>(by cases h)⟩
 simp -implicitDefEqProofs only[go_sem,seval,B8,beq_self_eq_true,Bool.and_self,Bool.and_true]
 refine⟨fun _=>ug acP ?_,fun h=>(by cases h)⟩
 simp -implicitDefEqProofs only[go_sem,seval,B8,beq_self_eq_true,Bool.and_self,Bool.and_true]
 exact⟨s,jF,rfl⟩
structure jd where
 cH:(List Int)
 oF:Int
instance:aP jd:=⟨2,fun x=>[.sl false 1 x.cH.length (flat x.cH),.int .i64 x.oF],(jd.mk [] 0),by decide,fun _=>rfl,fun _=>rfl⟩
@[go_sem]theorem wo(x:jd):aP.cells x=[.sl false 1 x.cH.length (flat x.cH),.int .i64 x.oF]:=rfl
def qW:IC:=dec 0xdd3dc9ef41d2cb1e2766ed7f0a15677669541485f6783cf89938501110449558abcbb144a4f5066b7f77a6cf9034413f4a9c6fdd901fe07da4c75917ffc1c44dd7151480d2ab3e3929e439ca5d6110eb246f8ee970b894e3f65e4f50e4d7ae037140b232dbaa9b21576bac47dc99397f6e85e4bbb8af47e6364b651079e42cc732458daff92985ed6eec2645c2d0a7b878616388e1c57be0cef8ab0d0ffdba32bb5605d615d7f2cee85394a4e7d49504883fa
theorem zN:eH prog 8 53 [⟨4,true,none⟩] qW=true:=by kernel_rfl
def nu:IC:=dec 0x13f4703f7a09b41309b6f719c1c8b33587c15a04d0753428cd0d8e77d123f2cf52286b36b33af01a80461986c9bf1be747c5522f2acb8dcf4f152a589e4bb137050d3ae5bdef1b09695028e03be0ade4289cc5496b4c3976b0be1dfb365e0818d8c66fbbe9316c74f7a0c38daaf59e430177ae63aaeaf3484ad39d34b503e63001cf2f8407716152b2cdbdd8c61da04e15ea0c6f2bbc8e2d749516886ed7e00627b20aa5e64e1bc5042c8ea01a3ae5c07c31ddc57c5dc143eb428af59967cb66b7b8d7b7b65fc6e1248c417413080271cad32538ecda2aefd688b11d469af27df8ccd2170b6e301d0c08220e02e410fec115ef6a88efae84acd96f798365c42af133a8c06e08bbc564867967cef575eb25263cc2148a88d803df048cb50dc05d4c4875f36ce4f39e61a8937bee307e0870a9cb303b27ab1a9849090e941a990d77ae816342627376f3e0076ffd7017058e18d72c719a331afa66066d5d91c6dced41444fb8289fac8e89137f98aa1aeff3e36863ab007aa9dcbdb9ccb209d97807e89fb0b
theorem vo:eH prog 3 105 [⟨8,true,none⟩] nu=true:=by kernel_rfl
def tu(b:List UInt8)(l:List aj):Int×gY->Option ((Int×gY)⊕gY):=fun(k,g)=>
 if decide (k<(l.length:Int))then
  bt (0<=k/\k<l.length)<|
  if((decide ((ix l k).aR>=0))&&(decide ((ix l k).aR<=(ix l k).To)))&&(decide ((ix l k).To<=(b.length:Int)))then
   bt (0<=(ix l k).aR/\(ix l k).aR<=(ix l k).To/\(ix l k).To<=b.length)<|
   bn (gX g (ix l k).aR (part b (ix l k).aR (ix l k).To)) fun r=>bt (r.1.total<=2147483647) (some (.inl (aC (k+1),r.1)))
  else some (.inl (aC (k+1),g))
 else some (.inr g)
theorem zQ{s:ae}{b:List UInt8}{l:List aj}{Q:List AV->ae->Prop}(hb:b.length<=2147483647):
 ok (iter (tu b l) (0,⟨b.length,[],fun _=>none⟩)) (fun g=>∀B s',eK s s' B g->Q [.ref B 0] s')->FN prog 8 [.sl false 1 b.length (flat b),.sl false 2 l.length (flat l)] s Q:=by
 intro hh
 refine FN.ji (FO zN rfl rfl ?_)
 rw[qW]
 conv in dec _=>reduce
 simp -implicitDefEqProofs only[go_sem,seval]
 refine uF ⟨by omega,by omega⟩ fun B s1 h1=>?_
 simp -implicitDefEqProofs only[go_sem,seval]
 revert hh
 refine kR (fun(q:Int×gY) τ=>∃s',τ=⟨[(0,.sl false 1 b.length (flat b)),(1,.sl false 2 l.length (flat l)),(5,.ref B 0),(7,.int .i64 q.1)],[],s'⟩/\eK s s' B q.2/\q.2.total<=2147483647) ?_ ?_
 ·exact⟨s1,rfl,h1,by show(b.length:Int)<=2147483647;omega⟩
 rintro J ⟨k,g⟩ τ ⟨s',rfl,h',ht⟩
 rw[tu]
 simp -implicitDefEqProofs only[go_sem,seval]
 rintro⟨w1,w2⟩
 refine⟨fun hk=>?_,fun hk=>?_⟩
 ·obtain⟨⟨k1,k2⟩,w1⟩:=w1 hk
  refine⟨⟨k1,k2⟩,fun hc=>?_,fun hc=>?_⟩
  ·obtain⟨c,w⟩:=w1.1 hc
   refine⟨c,ub h' ht (aK w fun r hr s2 h2=>?_)⟩
   simp -implicitDefEqProofs only[go_sem,seval]
   exact hr.2 _ ⟨s2,rfl,h2,hr.1⟩
  ·exact w1.2 hc _ ⟨s',rfl,h',ht⟩
 ·exact⟨s',Sub.refl _,w2 hk _ _ h'⟩
theorem OU:j7 pY pY=some true:=by kernel_rfl
structure J5(b:List UInt8)(l:List aj)(t:c6)(n:Int)(g w:gY)(x u:Int)(r r':aL×Int×Int):Prop where
 hs:iter (tu b l) (0,⟨b.length,[],fun _=>none⟩)=some g
 gt:g.total<=2147483647
 hr:fA g t n=some r
 hw:gX ⟨b.length,[],fun _=>none⟩ 0 b=some (w,x)
 wt:w.total<=2147483647
 ve:fA w t n=some r'
 VI:r.2.2=6->r.1=pY/\0<=r.2.1/\r.2.1<b.length/\lO g.known (max 0 r.2.1)=some u/\min g.total u=r.2.1
 ahj:r.2.2≠6->r'=r/\r.2.1=0/\j7 r.1 r.1=some true
theorem vt{s:ae}{b:List UInt8}{l:List aj}{tt:jd}{n:Int}(hh:b.length<=500->l.length<=30->tt.cH.length<=30->∃g w x u r r',J5 b l ⟨tt.cH,tt.oF⟩ n g w x u r r'):
 FE prog 3 [.sl false 1 b.length (flat b),.sl false 2 l.length (flat l),.agg [.sl false 1 tt.cH.length (flat tt.cH),.int .i64 tt.oF],.int .i64 n] s [.bool true] s:=by
 obtain⟨t,rfl⟩:∃t:c6,tt=⟨t.cH,t.oF⟩:=⟨⟨tt.cH,tt.oF⟩,rfl⟩
 refine FN.ji (FO vo rfl rfl ?_)
 rw[nu]
 conv in dec _=>reduce
 simp -implicitDefEqProofs only[go_sem,seval]
 refine⟨fun _=>nO.app ?_,fun hc=>?_⟩
 ·simp -implicitDefEqProofs only[go_sem,seval]
  exact⟨s,Sub.refl _,rfl⟩
 obtain⟨g,w,x,u,r,r',H⟩:=hh (by simp at hc;omega) (by simp at hc;omega) (by simp at hc;show t.cH.length<=30;omega)
 have hb:b.length<=500:=by simp at hc;omega
 refine zQ (by omega) ⟨g,H.hs,fun B s1 h1=>?_⟩
 simp -implicitDefEqProofs only[go_sem,seval]
 refine gC (as1:=[.ref B 0,.agg (TAB t)]) (by rfl) (rK (t:=t) fun F s2 hs2 hN=>?_)
 simp -implicitDefEqProofs only[go_sem,seval]
 have hV:=M1 (h1.sub hs2) H.gt hN
 refine(vV (f:=Zv F g t) (n:=n) hV H.hr).app ?_
 simp -implicitDefEqProofs only[go_sem,seval]
 refine⟨fun h6=>?_,fun h6=>?_⟩
 ·obtain⟨z1,z2,z3,z4,z5⟩:=H.VI (by simpa using h6)
  have e1:(decide (r.2.1>=0)&&decide (r.2.1<(b.length:Int)))=true:=by simp;omega
  rw[e1]
  refine⟨[.int .i64 r.2.1],rfl,fun _=>⟨_,rfl,?_⟩,?_⟩
  ·exact qP (g:=g) (at_:=r.2.1) (h1.sub hs2) ⟨u,z4,by show[AV.int IntKind.i64 (min g.total u)]=_/\_;rw[z5];exact⟨rfl,rfl⟩⟩
  simp -implicitDefEqProofs only[go_sem,seval,z1,beq_self_eq_true,Bool.and_self,Bool.and_true]
  refine⟨[.bool true],rfl,fun _=>⟨_,rfl,uE OU⟩,?_⟩
  simp -implicitDefEqProofs only[go_sem,seval,beq_self_eq_true,Bool.and_self,Bool.and_true]
  refine⟨[.bool true],rfl,?_,?_⟩
  ·first|exact fun _=>⟨_,rfl,nO⟩|exact fun _=>nO|exact nO
  simp -implicitDefEqProofs only[go_sem,seval,beq_self_eq_true,Bool.and_self,Bool.and_true]
  exact⟨s,fun c o hc=>hs2 c o (h1.1 c o hc),rfl⟩
 ·obtain⟨z1,z2,z3⟩:=H.ahj (by simpa using h6)
  refine gC (as1:=[.sl false 1 b.length (flat b)]) (by rfl) (qZ (l:=b) (by omega) ⟨(w,x),H.hw,fun B2 s3 h3=>?_⟩)
  simp -implicitDefEqProofs only[go_sem,seval]
  refine gC (as1:=[.ref B2 0,.agg (TAB t)]) (by rfl) (rK (t:=t) fun F2 s4 hs4 hN2=>?_)
  simp -implicitDefEqProofs only[go_sem,seval]
  have hV2:=M1 (h3.sub hs4) H.wt hN2
  refine(vV (f:=Zv F2 w t) (n:=n) hV2 H.ve).app ?_
  simp -implicitDefEqProofs only[go_sem,seval,z1]
  refine⟨[.bool true],rfl,uE z3,?_⟩
  simp -implicitDefEqProofs only[go_sem,seval,z2,beq_self_eq_true,Bool.and_self,Bool.and_true]
  refine⟨[.bool true],rfl,?_,?_⟩
  ·first|exact fun _=>⟨_,rfl,nO⟩|exact fun _=>nO|exact nO
  simp -implicitDefEqProofs only[go_sem,seval,beq_self_eq_true,Bool.and_self,Bool.and_true]
  exact⟨s,fun c o hc=>hs4 c o (h3.1 c o (hs2 c o (h1.1 c o hc))),rfl⟩
end Go.AB
end
