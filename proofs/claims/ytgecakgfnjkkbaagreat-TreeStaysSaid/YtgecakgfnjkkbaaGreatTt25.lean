/- A part. -/
import Derived.Test.YtgecakgfnjkkbaaGreatTt24
set_option linter.defProp false
set_option linter.unusedSimpArgs false
set_option linter.unusedVariables false
section
set_option maxRecDepth 16000
namespace Go.AB
open Go
open Go.Proofs.Tryz (prog)
attribute[-go_sem] Nat.add_zero mO cF
def yq:IC:=dec 0x24211861a9a6a54f4084670727ccd7ee91dbfd5c2bd0dadc824473a
def Ip:eO prog 40 11 [⟨2,true,none⟩] yq=true:=B_
def Bp:IC:=dec 0x116198e47d8ef7fa0d806bd5a6de6a5940a4c4c64aebd14ca6f01f94d213cc00473a
def rn:List jt:=[⟨2,true,none⟩]
def Bv:eO prog 37 10 rn Bp=true:=B_
def Bo:IC:=dec 0x112d52d4a6a46aca51e50c64c185d9f5936e2fae1d71687e28ec445d93974403b5ad6835cd4915dd5a3a86ca3f3e469eaca6f12312f24d3980083fa
def rm:List jt:=[⟨4,true,none⟩]
def Bu:eO prog 11 20 rm Bo=true:=B_
def wb:IC:=dec 0x923974c0fbb3b2dcd1015d919109e6380f7cf8548398854992caa95bda29f64ca8fbf7e70753f657fa004fd330bcdd7f61159ce502281bd61d9005388478b
def ES:eO prog 33 14 [⟨2,true,none⟩,⟨3,true,none⟩] wb=true:=B_
def Br:IC:=dec 0x150f3920dccc9d41605ec3bf24b1a0c2fbdabf4ef6cdf9e1620a472f9a794d0609eff9447d18a1e415038e33fafe0ee84e0fbcf2b11388473a
def rq:List jt:=[⟨2,true,none⟩]
def Bz:eO prog 13 17 rq Br=true:=B_
def sL:IC:=dec 0x431edb2d2c176c76246e5e018b1d3c62543514f693670cc83a19fbcf147e232192275cc343436e230f17eaead42060e3493abe33f7ccf2a24039c3b65ccc2a16fedd3c54c011a159b69e41bfba3264010249b422d75553531ccc43e7bb721da34166f19f6b1037f3ec622116c0bfebfea348cf866a94e6a5acd28a4471e9ec6daed1e53ae4ce34b692b56ccb8bc4d1b7d20aba6b2fa6f471ff2557243cf3ce8523cbf4def4e3295
def Bw:eO prog 69 47 [] sL=true:=B_
def vZ:IC:=dec 0x3663fbcb698256ae5eae0af3ba5586ea4b0159e4552068b3cfeb2128d40b44e86d8a42377d066b3a34171156b3615a9c0124a230cbce43837aac9bd58ca8ca2fc2d71f6607a56bdaaec63c1679bff486775c98db6aa2e3619b5ee0504ba985113bb427e688325337a4edf699f7a97e198e938f932fb9775432da8694027986836b798a8a527e6f1030f357d910faa6d49b455eb8ad8d37af46bb71f4a864b0ad8cfaf8009cc6ea8922c46e56dd2464569692e03fa8d40bef50222320cb6275d339ce32b0278e2a59e34c2930f58dd57c91a2252a4015f04adc6e70f5a3972e461b581bde6aa6ea5dcbadea6d703d6e18ef198c2eb064d239ed11a05a7a870de3231de836dc801acdc976400c0ba
def EP:eO prog 34 71 [⟨6,true,none⟩] vZ=true:=B_
abbrev JO:=Int->Option (List UInt8)
structure iQ where
 total:Int
 known:List aj
 sI:JO
def pA(m:JO)(k:Int)(l:List UInt8):JO:=fun i=>if i=k then some l else m i
def KI(es:List (AV×AV)):Prop:=∀p∈es,∃(k:Int)(v:AV),p=(.int .i64 k,v)
def Cd(s0 s:ae)(es:List (AV×AV))(k:Int):Option (List UInt8)->Prop
 |none=>gF (.int .i64 k) es=none
 |some l=>l.length=4096/\∃b,gF (.int .i64 k) es=some (.arr b 0 4096 4096)/\s0 b=none/\s b=some (.cells (flat l))
def Inj(es:List (AV×AV)):Prop:=∀k k' b,gF (.int .i64 k) es=some (.arr b 0 4096 4096)->gF (.int .i64 k') es=some (.arr b 0 4096 4096)->k=k'
def fp(s0 s:ae)(B:Nat)(g:iQ):Prop:=Sub s0 s/\s0 B=none/\∃M es,s B=some (.cells [.bool true,.int .i64 g.total,Es g.known,.mp M])/\s0 M=none/\s M=some (.map es)/\KI es/\(∀k,Cd s0 s es k (g.sI k))/\Inj es
def ae5(cs:List AV):Prop:=∀c∈cs,∃m:Int,c=.int .u8 m
def YL(l:List UInt8):ae5 (flat l):=fun c hc=>by
 obtain⟨y,hy,hc⟩:=List.mem_flatten.1 hc
 obtain⟨z,_,rfl⟩:=List.mem_map.1 hy
 exact⟨_,List.mem_singleton.1 hc⟩
theorem OX{l:List UInt8}{r:List AV}(h:flat l=.bool true::r):False:=by
 obtain⟨m,hm⟩:=YL l (.bool true) A_
 cases hm
def Cd.mono{s0 s s':ae}{es:List (AV×AV)}{k:Int}{o:Option (List UInt8)}(h:Cd s0 s es k o)(hs:∀b l,s b=some (.cells (flat (l:List UInt8)))->s' b=some (.cells (flat l))):Cd s0 s' es k o:=by
 cases o with
 |none=>exact h
 |some l=>obtain⟨h1,b,h2,h3,h4⟩:=h;exact⟨h1,b,h2,h3,hs b l h4⟩
theorem fp.setAt{s0 s:ae}{B:Nat}{g:iQ}(h:fp s0 s B g):∃cs,Av s B 2 cs g.known/\∀l,fp s0 (s.set B (.cells (AB.setAt cs 2 [Es l]))) B ⟨g.total,l,g.sI⟩:=by
 obtain⟨h1,h2,M,es,h3,h4,h5,h6,h7,h8⟩:=h
 refine⟨_,⟨h3,rfl⟩,fun l=>⟨fun b o hb=>?_,h2,M,es,?_,h4,?_,h6,fun k=>(h7 k).mono fun b l hb=>?_,h8⟩⟩
 ·rw[ai (fun e=>A_)];exact h1 b o hb
 ·rw[cD];rfl
 ·rw[ai (fun e=>A_)];exact h5
 ·rw[ai (fun e=>by
   rw[e,h3]at hb
   injection hb with hb;injection hb with hb
   exact OX hb.symm)]
  exact hb
theorem KI.keys{es:List (AV×AV)}(h:KI es):oQ (.int .i64) es=true:=by
 unfold oQ
 rw[List.all_eq_true]
 intro p hp
 obtain⟨k,v,rfl⟩:=h p hp
 rfl
theorem nZ(k k':Int)(v:AV):∀{es:List (AV×AV)},KI es->gF (.int .i64 k) (yU (.int .i64 k') v es)=if k=k' then some v else gF (.int .i64 k) es
 |[],_=>by
  simp only[yU,gF,qV]
  by_cases h:k=k'
  ·simp
  ·rw[if_neg h,show(k==k')=false by simpa using h];rfl
 |p::es,h=>by
  obtain⟨j,u,rfl⟩:=h p List.mem_cons_self
  have ih:=nZ k k' v fun q hq=>h q (List.mem_cons_of_mem _ hq)
  simp[yU,qV]
  by_cases e:k'=j
  ·subst e
   by_cases h:k=k'
   ·simp[gF,qV,h]
   ·simp only[beq_self_eq_true,cond_true,gF,qV];rw[if_neg h,show(k==k')=false by simpa using h];rfl
  ·rw[show(k'==j)=false by simpa using e]
   simp only[cond_false,gF,qV,ih]
   by_cases h:k=j
   ·subst h;simp[if_neg (fun h:k=k'=>e h.symm)]
   ·rw[show(k==j)=false by simpa using h];simp
theorem KI.put{k:Int}{v:AV}:∀{es:List (AV×AV)},KI es->KI (yU (.int .i64 k) v es)
 |[],_=>fun p hp=>by
  rcases List.mem_cons.1 hp with rfl|hp
  ·exact⟨k,v,rfl⟩
  ·cases hp
 |q::es,h=>by
  unfold yU
  cases hk:yz (.int .i64 k) q.1 with
  |true=>
   intro p hp
   rcases List.mem_cons.1 hp with rfl|hp
   ·exact⟨k,v,rfl⟩
   ·exact h p (List.mem_cons_of_mem _ hp)
  |false=>
   intro p hp
   rcases List.mem_cons.1 hp with rfl|hp
   ·exact h _ List.mem_cons_self
   ·exact KI.put (fun q' hq=>h q' (List.mem_cons_of_mem _ hq)) p hp
def fp.row{s0 s:ae}{B b M:Nat}{g:iQ}{es:List (AV×AV)}{k:Int}{l l':List UInt8}(h:fp s0 s B g)(hB:s B=some (.cells [.bool true,.int .i64 g.total,Es g.known,.mp M]))(hM:s M=some (.map es))(hb:s0 b=none)(hk:gF (.int .i64 k) es=some (.arr b 0 4096 4096))(h1:s b=some (.cells (flat l)))(h3:l'.length=4096):
 fp s0 (s.set b (.cells (flat l'))) B ⟨g.total,g.known,pA g.sI k l'⟩:=by
 obtain⟨q1,q2,M',es',q3,q4,q5,q6,q7,q8⟩:=h
 have eM:M'=M:=A_
 have eE:es'=es:=A_
 subst eE
 have nB:B≠b:=fun e=>by
  rw[<-e,q3]at h1
  injection h1 with h1;injection h1 with h1
  exact OX h1.symm
 have nM:M'≠b:=fun e=>A_
 refine⟨fun c o hc=>?_,q2,M',es',by rw[ai nB];exact q3,q4,by rw[ai nM];exact q5,q6,fun i=>?_,q8⟩
 ·rw[ai (fun e=>A_)];exact q1 c o hc
 ·show Cd _ _ _ i (if i=k then some l' else g.sI i)
  by_cases hi:i=k
  ·subst hi;rw[if_pos rfl];exact⟨h3,b,hk,hb,cD ..⟩
  ·rw[if_neg hi]
   have h:=q7 i
   cases ho:g.sI i with
   |none=>rw[ho]at h;exact h
   |some l2=>
    rw[ho]at h
    obtain⟨w1,b2,w2,w3,w4⟩:=h
    exact⟨w1,b2,w2,w3,by rw[ai (fun e=>hi (q8 i k b2 w2 A_))];exact w4⟩
theorem fp.put{s0 s:ae}{B M b:Nat}{g:iQ}{es:List (AV×AV)}{k:Int}{l:List UInt8}(h:fp s0 s B g)(hB:s B=some (.cells [.bool true,.int .i64 g.total,Es g.known,.mp M]))(hM:s M=some (.map es))(hb:s b=none)(h3:l.length=4096):
 fp s0 ((s.set b (.cells (flat l))).set M (.map (yU (.int .i64 k) (.arr b 0 4096 4096) es))) B ⟨g.total,g.known,pA g.sI k l⟩:=by
 obtain⟨q1,q2,M',es',q3,q4,q5,q6,q7,q8⟩:=h
 have eM:M'=M:=A_
 subst eM
 have eE:es'=es:=A_
 subst eE
 have nBb:B≠b:=fun e=>A_
 have nMb:M'≠b:=fun e=>A_
 have nB:B≠M':=fun e=>A_
 have fb:∀i,gF (.int .i64 i) es'≠some (.arr b 0 4096 4096):=fun i e=>by
  have h:=q7 i
  cases ho:g.sI i with
  |none=>rw[ho]at h;rw[h]at e;cases e
  |some l2=>
   rw[ho]at h
   obtain⟨w1,b2,w2,w3,w4⟩:=h
   rw[w2]at e;injection e with e;injection e with e
   rw[e,hb]at w4;cases w4
 refine⟨fun c o hc=>?_,q2,M',_,by rw[ai nB,ai nBb];exact q3,q4,cD ..,q6.put,fun i=>?_,fun i j c hi hj=>?_⟩
 ·rw[ai (fun e=>A_),ai (fun e=>by rw[e,Sub.none q1 hb]at hc;cases hc)];exact q1 c o hc
 ·show Cd _ _ _ i (if i=k then some l else g.sI i)
  by_cases hi:i=k
  ·subst hi;rw[if_pos rfl]
   exact⟨h3,b,by rw[nZ _ _ _ q6,if_pos rfl],Sub.none q1 hb,by rw[ai (Ne.symm nMb),cD]⟩
  ·rw[if_neg hi]
   have h:=q7 i
   cases ho:g.sI i with
   |none=>rw[ho]at h;show gF _ _=none;rw[nZ _ _ _ q6,if_neg hi];exact h
   |some l2=>
    rw[ho]at h
    obtain⟨w1,b2,w2,w3,w4⟩:=h
    exact⟨w1,b2,by rw[nZ _ _ _ q6,if_neg hi];exact w2,w3,by rw[ai (fun e=>A_),ai (fun e=>A_)];exact w4⟩
 ·rw[nZ _ _ _ q6]at hi hj
  by_cases ei:i=k
  ·by_cases ej:j=k
   ·rw[ei,ej]
   ·rw[if_pos ei]at hi;rw[if_neg ej]at hj
    rw[<-hi]at hj;exact absurd hj (fb j)
  ·rw[if_neg ei]at hi
   by_cases ej:j=k
   ·rw[if_pos ej]at hj
    rw[<-hj]at hi;exact absurd hi (fb i)
   ·rw[if_neg ej]at hj;exact q8 i j c hi hj
def nC{s0 s:ae}{B:Nat}{g:iQ}{Q:List AV->ae->Prop}(h:fp s0 s B g)(hq:Q [.bool true] s):FN prog 40 [.ref B 0] s Q:=by
 obtain⟨h1,h2,M,es,h3,h4,h5,h6⟩:=h
 refine FN.j4 (FO Ip rfl rfl ?_)
 rw[yq]
 refine Xf7 ?_
 refine Xg0 h3 ?_
 exact⟨s,Sub.refl s,hq⟩
def Bb{s0 s:ae}{B:Nat}{g:iQ}{Q:List AV->ae->Prop}(h:fp s0 s B g)(hq:Q [.int .i64 g.total] s):FN prog 37 [.ref B 0] s Q:=by
 refine FN.j4 (FO Bv rfl rfl ?_)
 rw[rn]
 refine nC h ?_
 obtain⟨h1,h2,M,es,h3,h4,h5,h6⟩:=h
 refine Xg0 h3 ?_
 exact⟨fun h=>h.elim,fun _=>⟨s,Sub.refl s,hq⟩⟩
def sG{s0 s:ae}{B:Nat}{g:iQ}{at_:Int}{Q:List AV->ae->Prop}(h:fp s0 s B g):ok (lC g.known (max 0 at_)) (fun r=>Q [.int .i64 (min g.total r)] s)->FN prog 11 [.ref B 0,.int .i64 at_] s Q:=by
 intro hh
 refine FN.j4 (FO Bu rfl rfl ?_)
 rw[rm]
 refine nC h ?_
 obtain⟨cs,hs,_⟩:=h.setAt
 obtain⟨h1,h2,M,es,h3,h4,h5,h6⟩:=h
 refine Xg0 h3 ?_
 refine⟨fun h=>h.elim,fun _=>?_⟩
 obtain⟨r,hr,hq⟩:=hh
 refine⟨[.int .i64 r],rfl,Aw hs ⟨r,hr,rfl,rfl⟩,?_⟩
 refine Xe2 ?_
 exact⟨s,Sub.refl s,hq⟩
def wq{s:ae}{n:Int}{Q:List AV->ae->Prop}(hn:0<=n/\n<=2147483647)(hq:∀B s',fp s s' B ⟨n,[],fun _=>none⟩->Q [.ref B 0,.int .i64 0] s'):FN prog 33 [.int .i64 n] s Q:=by
 refine FN.j4 (FO ES rfl rfl ?_)
 rw[wb]
 refine Xf7 ?_
 refine Xe2 ?_
 refine⟨fun h=>?_,fun _ M hM B hB=>⟨_,Sub.refl _,hq B _ ⟨((Sub.refl s).set hM).set hB,?_,M,[],cD ..,hM,?_,fun p hp=>A_,fun k=>rfl,fun k k' b h=>F_⟩⟩⟩
 ·simp at h;omega
 ·rw[fB]at hB;exact hB.2
 ·rw[fB]at hB;rw[ai (Ne.symm hB.1),cD]
theorem QK{es:List (AV×AV)}{n:Int}(h:KI es)(e:gF (.int .i64 n) es=none):uS (.int .i64) (.sl false 1 0 []) true (.int .i64 n) (some (.map es))=.prt True (.jg [.sl false 1 0 [],.bool false]):=by
 show Rz true (gI (.int .i64) (.int .i64 n)=true/\oQ (.int .i64) es=true) (we (.sl false 1 0 []) true (gF (.int .i64 n) es))=_
 rw[e,h.keys]
 show PR.prt (true=true/\true=true) _=_
 simp[we,NF,view]
theorem QL{es:List (AV×AV)}{n:Int}{b:Nat}(h:KI es)(e:gF (.int .i64 n) es=some (.arr b 0 4096 4096)):uS (.int .i64) (.sl false 1 0 []) true (.int .i64 n) (some (.map es))=.prt True (.jg [.arr b 0 4096 4096,.bool true]):=by
 show Rz true (gI (.int .i64) (.int .i64 n)=true/\oQ (.int .i64) es=true) (we (.sl false 1 0 []) true (gF (.int .i64 n) es))=_
 rw[e,h.keys]
 show PR.prt (true=true/\true=true) _=_
 simp[we,NF,view]
theorem Cl{o:Nat}(h:o<4096):jF 0 4096 o 1=o:=by
 unfold jF
 rw[show(4096==o)=false by simp;omega];simp
def nS(c:List UInt8)(o:Nat)(x:List UInt8):List UInt8:=c.take o++x++c.drop (o+x.length)
def agL{c x:List UInt8}{o:Nat}(h:o+x.length<=c.length):(nS c o x).length=c.length:=by unfold nS;simp[List.length_append,List.length_take,List.length_drop];omega
theorem YN(m:JO)(k:Int)(x y:List UInt8):pA (pA m k x) k y=pA m k y:=by funext i;unfold pA;by_cases h:i=k<;>simp[h]
def cpy{E:St}{d:Option Nat}{K:St->Prop}{s0:ae}{B b M:Nat}{g:iQ}{es:List (AV×AV)}{k:Int}{c l:List UInt8}{o o' n cap:Nat}(h:fp s0 E.s B g)(hB:E.s B=some (.cells [.bool true,.int .i64 g.total,Es g.known,.mp M]))(hM:E.s M=some (.map es))(hb:s0 b=none)
 (hk:gF (.int .i64 k) es=some (.arr b 0 4096 4096))(h2:E.s b=some (.cells (flat c)))(h3:c.length=4096)(ho:o<4096)(he:o'=o)(hn:n=4096 -o)
 (hK:∀s3,fp s0 s3 B ⟨g.total,g.known,pA g.sI k (nS c o (l.take (min l.length (4096 -o))))⟩->K ({E with s:=s3}.put d (.int .i64 (min l.length (4096 -o):Nat)))):zr 1 E d K (.arr b o' n cap) (some (l.length,flat l)):=by
 subst he;subst hn
 have hf:(flat c).length=4096:=by rw[ax,h3];rfl
 refine l9 h2 AT (hK _ ?_)
 have hl:(l.take (min l.length (4096 -o'))).length=min l.length (4096 -o'):=BY
 have e:=jz c (l.take (min l.length (4096 -o'))) [] 1 o' rfl AT
 rw[List.append_nil,List.append_nil,Nat.mul_one]at e
 have e2:(flat l).take (min l.length (4096 -o')*1)=flat (l.take (min l.length (4096 -o'))):=uM l _
 rw[e2,e]
 exact fp.row h hB hM hb hk h2 A_
def VN:List UInt8:=List.replicate 4096 0
def El:Int×List UInt8×JO->Option ((Int×List UInt8×JO)⊕JO):=fun(a,l,m)=>
 if decide ((l.length:Int)>0)then
  some (.inl (aC (a+(min l.length (4096 -(a.tmod 4096).toNat):Nat)),l.drop (min l.length (4096 -(a.tmod 4096).toNat)),
   pA m (aC (a.tdiv 4096)) (nS ((m (aC (a.tdiv 4096))).getD VN) (a.tmod 4096).toNat (l.take (min l.length (4096 -(a.tmod 4096).toNat))))))
 else some (.inr m)
def Bc{s0 s:ae}{B:Nat}{g:iQ}{a0:Int}{l0:List UInt8}{Q:List AV->ae->Prop}(h:fp s0 s B g)(h0:0<=a0)(h1:a0+l0.length<=9223372036854775807):
 ok (iter El (a0,l0,g.sI)) (fun m=>∀s',fp s0 s' B ⟨g.total,g.known,m⟩->Q [] s')->FN prog 69 [.ref B 0,.int .i64 a0,.sl false 1 l0.length (flat l0)] s Q:=by
 intro hw
 refine FN.j4 (FO Bw rfl rfl ?_)
 rw[sL]
 refine Xf7 ?_
 revert hw
 refine lM (fun st τ=>0<=st.1/\st.1+(st.2.1.length:Int)<=9223372036854775807/\∃s',τ=⟨[(0,.ref B 0),(1,.int .i64 st.1),(2,.sl false 1 st.2.1.length (flat st.2.1))],[],s'⟩/\fp s0 s' B ⟨g.total,g.known,st.2.2⟩) ⟨h0,h1,s,rfl,h⟩ ?_
 rintro J ⟨a,l,m⟩ τ ⟨ha,hal,s',rfl,hs⟩
 have ha:0<=a:=ha
 have hal:a+(l.length:Int)<=9223372036854775807:=hal
 obtain⟨q1,q2,M,es,q3,q4,q5,q6,q7,q8⟩:=id hs
 rw[El]
 refine Xh6 q3 q5 ?_
 rintro⟨hw1,hw2⟩
 refine⟨fun hc=>⟨By,By,?_⟩,fun hc=>⟨s',Sub.refl s',hw2 hc s' hs⟩⟩
 have hw:=hw1 hc
 clear hw1 hw2
 have hm:0<=a.tmod 4096:=Int.tmod_nonneg _ ha
 have hm2:a.tmod 4096<4096:=Int.tmod_lt_of_pos _ By
 have hN:min l.length (4096 -(a.tmod 4096).toNat)<=l.length:=Nat.min_le_left ..
 have gn:∀N,AB.sub (flat l) (N*1) ((l.length -N)*1)=flat (l.drop N):=fun N=>by rw[lG l 1 N (l.length -N) rfl,List.take_of_length_le BY]
 have hlen:∀N,(flat (l.drop N)).length/1=(l.drop N).length:=fun N=>by rw[Nat.div_one,ax];exact Nat.mul_one _
 have hj:∀c,(m (aC (a.tdiv 4096))).getD VN=c->∀s3,fp s0 s3 B ⟨g.total,g.known,pA m (aC (a.tdiv 4096)) (nS c (a.tmod 4096).toNat (l.take (min l.length (4096 -(a.tmod 4096).toNat))))⟩->J ⟨[(0,.ref B 0),(1,.int .i64 (aC (a+(min l.length (4096 -(a.tmod 4096).toNat):Nat)))),(2,.sl false 1 (l.drop (min l.length (4096 -(a.tmod 4096).toNat))).length (flat (l.drop (min l.length (4096 -(a.tmod 4096).toNat)))))],[],s3⟩:=fun c hcc s3 h3=>by
  subst hcc
  have hw':aC (a+(min l.length (4096 -(a.tmod 4096).toNat):Nat))=a+(min l.length (4096 -(a.tmod 4096).toNat):Nat):=an AT AT
  refine hw _ ⟨?_,?_,s3,rfl,h3⟩
  ·show 0<=aC _;rw[hw'];omega
  ·show aC _+((l.drop _).length:Int)<=_;rw[hw',List.length_drop];omega
 have q7':=q7 (aC (a.tdiv 4096))
 cases hmk:m (aC (a.tdiv 4096))with
 |none=>
  have e:gF (.int .i64 (aC (a.tdiv 4096))) es=none:=by rw[show(iQ.sI ⟨g.total,g.known,m⟩) (aC (a.tdiv 4096))=none from hmk]at q7';exact q7'
  rw[QK q6 e]
  refine Xh6 q3 q5 ?_
  refine⟨fun _=>⟨By,By,By,fun b hb=>?_⟩,fun h=>F_⟩
  have hB:B≠b:=fun e=>by rw[<-e,q3]at hb;cases hb
  have hM:M≠b:=fun e=>by rw[<-e,q5]at hb;cases hb
  have hBM:B≠M:=fun e=>by rw[e,q5]at q3;cases q3
  have e1:s0 b=none:=Sub.none q1 hb
  simp -implicitDefEqProofs only[go_sem,Nat.reduceBEq,Nat.reduceAdd,Nat.reduceMul,Nat.reduceLeDiff,Nat.reduceEqDiff,Nat.reduceBNe,UInt8.reduceToNat,UInt32.reduceToNat,ai hB,ai hM,q3,q5]
  refine⟨⟨rfl,rfl,q6.keys⟩,?_⟩
  refine Xf4 ?_
  refine⟨⟨hm,Int.le_of_lt hm2,Int.le_refl _⟩,?_⟩
  rw[gl,aH]
  have hss:=fp.put (k:=aC (a.tdiv 4096)) (l:=List.replicate (Int.toNat 4096) (0:UInt8)) hs q3 q5 hb (by rw[List.length_replicate];rfl)
  refine cpy (o:=(a.tmod 4096).toNat) (c:=List.replicate (Int.toNat 4096) (0:UInt8)) hss (by show ae.set (ae.set s' b _) M _ B=_;rw[ai hBM,ai hB];exact q3) (cD ..) e1 (by rw[nZ _ _ _ q6,if_pos rfl];rfl) (by show ae.set (ae.set s' b _) M _ b=_;rw[ai (Ne.symm hM),cD]) (by rw[List.length_replicate];rfl) AT (Cl AT) C3 fun s3 h3=>?_
  refine Xf4 ?_
  rw[gn,hlen]
  exact⟨AT,hj (List.replicate (Int.toNat 4096) (0:UInt8)) (by rw[hmk];rfl) s3 (by have h4:=h3;rw[YN]at h4;exact h4)⟩
 |some c=>
  obtain⟨w1,b,e,e1,e2⟩:Cd s0 s' es (aC (a.tdiv 4096)) (some c):=by rw[show(iQ.sI ⟨g.total,g.known,m⟩) (aC (a.tdiv 4096))=some c from hmk]at q7';exact q7'
  rw[QL q6 e]
  refine Xh6 q3 q5 ?_
  refine⟨fun h=>F_,fun _=>?_⟩
  refine⟨⟨hm,Int.le_of_lt hm2,Int.le_refl _⟩,?_⟩
  rw[gl,aH]
  refine cpy (o:=(a.tmod 4096).toNat) hs q3 q5 e1 e e2 w1 AT (Cl AT) AT fun s3 h3=>?_
  refine Xf4 ?_
  rw[gn,hlen]
  exact⟨AT,hj c (by rw[hmk];rfl) s3 h3⟩
def XY(a:Int)(l:List UInt8)(ms:List aj):Int×JO->Option ((Int×JO)⊕JO):=fun(k,m)=>
 if decide (k<(ms.length:Int))then
  a8 (0<=k/\k<ms.length/\(a<=(ix ms k).aS/\(ix ms k).aS<=(ix ms k).To/\(ix ms k).To<=a+l.length))<|
  aQ (iter El ((ix ms k).aS,part l ((ix ms k).aS -a) ((ix ms k).To -a),m)) fun m'=>
  some (.inl (aC (k+1),m'))
 else some (.inr m)
def kN(g:iQ)(a:Int)(l:List UInt8):Option (iQ×Int):=
 if decide (a<0)||decide (a>g.total)then some (g,2)
 else if decide ((l.length:Int)>aC (g.total -a))then some (g,5)
 else
  aQ (pC g.known ⟨a,aC (a+l.length)⟩) fun ms=>
  aQ (iter (XY a l ms) (0,g.sI)) fun m=>
  aQ (BP g.known ⟨a,aC (a+l.length)⟩) fun kn=>some (⟨g.total,kn,m⟩,0)
def vO{s0 s:ae}{B:Nat}{g:iQ}{a:Int}{l:List UInt8}{Q:List AV->ae->Prop}(h:fp s0 s B g)(ht:g.total<=2147483647):ok (kN g a l) (fun r=>∀s',fp s0 s' B r.1->Q [.int .i64 r.2] s')->FN prog 34 [.ref B 0,.int .i64 a,.sl false 1 l.length (flat l)] s Q:=by
 intro hh
 refine FN.j4 (FO EP rfl rfl ?_)
 rw[vZ]
 refine Xf7 ?_
 refine Xe2 ?_
 refine nC h ?_
 obtain⟨cs,hs,CW⟩:=h.setAt
 have h3:∃M,s B=some (.cells [.bool true,.int .i64 g.total,Es g.known,.mp M]):=by obtain⟨_,_,M,_,h3,_⟩:=h;exact⟨M,h3⟩
 obtain⟨M,h3⟩:=h3
 revert hh
 rw[kN]
 refine Xg0 h3 ?_
 rintro⟨w1,w2⟩
 refine⟨fun h=>h.elim,fun _=>⟨fun hc=>⟨s,Sub.refl s,w1 hc s h⟩,fun hc=>⟨fun hd=>⟨s,Sub.refl s,(w2 hc).1 hd s h⟩,fun hd=>?_⟩⟩⟩
 obtain⟨ms,m1,hh⟩:=(w2 hc).2 hd
 refine⟨[slw ms],rfl,Cf hs ⟨ms,m1,rfl,rfl⟩,?_⟩
 clear w1 w2
 have hc1:0<=a/\a<=g.total:=Xr
 have hl:a+l.length<=g.total:=by
  have hd:¬((l.length:Int)>aC (g.total -a)):=by simpa using hd
  rw[an AT AT]at hd;omega
 have hw:aC (a+l.length)=a+l.length:=an AT AT
 rw[hw]at hh⊢
 refine Xe2 ?_
 revert hh
 refine lM (fun k τ=>∃s',τ=⟨[(0,.ref B 0),(1,.int .i64 a),(2,.sl false 1 l.length (flat l)),(7,.loc [.int .i64 a,.int .i64 (a+l.length)]),(45,slw ms),(46,.int .i64 (ms.length:Nat)),(47,.int .i64 k.1)],[],s'⟩/\fp s0 s' B ⟨g.total,g.known,k.2⟩) ⟨s,rfl,h⟩ ?_
 rintro J ⟨k,m⟩ τ ⟨s',rfl,h'⟩
 obtain⟨cs',hs',afY⟩:=h'.setAt
 have gn:=h'.1
 rw[XY]
 refine Xe2 ?_
 rintro⟨w1,w2⟩
 refine⟨fun hk=>?_,fun hk=>?_⟩
 ·obtain⟨⟨k1,k2,k3,k4,k5⟩,w1⟩:=w1 hk
  refine⟨⟨k1,k2⟩,?_⟩
  rw[an (n:=(ix ms k).aS -a) AT AT,an (n:=(ix ms k).To -a) AT AT]
  refine⟨⟨AT,AT,AT⟩,?_⟩
  refine Bc h' AT ?_ (aL w1 fun m' w1 s3 h3=>?_)
  ·have:(part l ((ix ms k).aS -a) ((ix ms k).To -a)).length<=((ix ms k).To -a -((ix ms k).aS -a)).toNat:=by unfold part;exact List.length_take_le ..
   omega
  ·refine Xe2 ?_
   exact w1 _ ⟨s3,rfl,h3⟩
 ·have w2:=w2 hk
  refine Mp (x:=⟨a,a+l.length⟩) hs' (aL w2 fun kn hq=>?_)
  refine Xe2 ?_
  exact⟨_,Sub.refl _,hq _ (afY kn)⟩
def BM{s:ae}{l:List UInt8}{Q:List AV->ae->Prop}(hl:l.length<=2147483647):ok (kN ⟨l.length,[],fun _=>none⟩ 0 l) (fun r=>∀B s',fp s s' B r.1->Q [.ref B 0] s')->FN prog 13 [.sl false 1 l.length (flat l)] s Q:=by
 intro hh
 refine FN.j4 (FO Bz rfl rfl ?_)
 rw[rq]
 refine wq AT fun B s' h'=>?_
 refine Xe2 ?_
 refine⟨fun h=>h.elim,fun _=>vO h' (show(l.length:Int)<=2147483647 by omega) (aL hh fun r hq s3 h3=>?_)⟩
 refine Xe2 ?_
 exact⟨s3,Sub.refl _,hq B s3 h3⟩
def tP:IC:=dec 0x27a3b5d2c2e76ef05141fd12a42afccc6270847ae66be2e7e3f714bfcdc16cf4fbd12186bbc4613b65d1454e57667f4f4b2c1efd5ff8dcdac7a04d35c851e1abf5ae3ada9a12447b5f69181497a82e99b79ef7543ca0184190ebc7ae8fe56a4be16ad9704d485571186b8afb3028cb4712f5cd644b09e3f67169dee0a9392b615396d9012fa7ac6c2e8feb9234ef55bcf317c7045bd1e2e09d5069260c0b0a256761f76872cae4d00dc3f4823d5793de93646a043ad132218360aa8a88946b9b6fed20d2de90e1fa1bd0412c61e509279072bd4b05ad97f14e02ea49d738bdcdd5af373b27a08248ddbd1e48eb76ec97c88355a76fe662381e2fa6c005416052aee4276798d0f3210b
def Dd:eO prog 71 85 [⟨6,true,none⟩,⟨7,true,none⟩] tP=true:=B_
def LL(m:JO)(at_ n:Int):List UInt8->Option (List UInt8⊕List UInt8):=fun out=>
 if decide ((out.length:Int)<n)then
  a8 ((m (aC ((aC (at_+out.length)).tdiv 4096))).isSome=true)<|
  some (.inl (out++(((m (aC ((aC (at_+out.length)).tdiv 4096))).getD []).drop ((aC (at_+out.length)).tmod 4096).toNat).take (min (4096 -((aC (at_+out.length)).tmod 4096).toNat) (n -out.length).toNat)))
 else some (.inr out)
def jD(g:iQ)(at_ most:Int):Option (List UInt8×Bool):=
 if(decide (at_<0)||decide (at_>g.total))||decide (most<0)then some ([],false)
 else
  aQ (lC g.known at_) fun u=>
  a8 (at_<=u/\u<=g.total)<|
  aQ (iter (LL g.sI at_ (min most (u -at_))) []) fun out=>
  some (out,aC (at_+min most (u -at_))==g.total)
theorem T8{es:List (AV×AV)}{n:Int}{b:Nat}(h:KI es)(e:gF (.int .i64 n) es=some (.arr b 0 4096 4096)):uS (.int .i64) (.sl false 1 0 []) false (.int .i64 n) (some (.map es))=.prt True (.arr b 0 4096 4096):=by
 show Rz false (gI (.int .i64) (.int .i64 n)=true/\oQ (.int .i64) es=true) (we (.sl false 1 0 []) false (gF (.int .i64 n) es))=_
 rw[e,h.keys]
 show PR.prt (true=true/\true=true) _=_
 simp[we,NF,view]
def Cg{s0 s:ae}{B:Nat}{g:iQ}{a most:Int}{Q:List AV->ae->Prop}(h:fp s0 s B g)(ht:g.total<=2147483647):ok (jD g a most) (fun x=>(x.1=[]->x.2=false->Q [.sl true 1 0 [],.bool false] s)/\(x.1=[]->∀b,s b=none->Q [.arr b 0 0 0,.bool x.2] (s.set b (.cells [])))/\∀r s',Sub s s'->fY s' r x.1->Q [jk r x.1.length,.bool x.2] (jb s' r x.1))->FN prog 71 [.ref B 0,.int .i64 a,.int .i64 most] s Q:=by
 intro hh
 refine FN.j4 (FO Dd rfl rfl ?_)
 rw[tP]
 refine Xf7 ?_
 refine Xf4 ?_
 refine nC h ?_
 obtain⟨cs,hs,CW⟩:=h.setAt
 obtain⟨q1,q2,M,es,q3,q4,q5,q6,q7,q8⟩:=id h
 revert hh
 rw[jD]
 refine Xf2 q3 ?_
 rintro⟨w1,w2⟩
 refine⟨fun hc=>⟨s,Sub.refl s,(w1 hc).1 trivial trivial⟩,fun hc=>?_⟩
 obtain⟨u,hu,⟨hu1,hu2⟩,hh⟩:=w2 hc
 clear w1 w2
 have hc1:0<=a/\a<=g.total/\0<=most:=Xr
 refine Aw hs ⟨u,hu,?_⟩
 refine Xf2 q3 ?_
 rw[an (n:=u -a) AT AT]
 generalize hn:min most (u -a)=n at hh⊢
 have hn0:0<=n/\a+n<=g.total:=AT
 revert hh
 refine fun hh=>⟨Int.le_refl 0,hn0.1,iN,fun b hb=>?_⟩
 by_cases hz:n=0
 ·subst hz
  revert hh
  refine lM (fun out τ=>out=[]/\τ=⟨[(0,.ref B 0),(1,.int .i64 a),(8,.int .i64 0),(9,.arr b 0 0 0)],[],s.set b (.cells [])⟩) ⟨rfl,rfl⟩ ?_
  rintro J out τ ⟨rfl,rfl⟩
  have nB:B≠b:=fun e=>by rw[<-e,q3]at hb;cases hb
  have p3:(s.set b (.cells [])) B=_:=(ai nB).trans q3
  rw[LL]
  refine Xf2 p3 ?_
  rintro⟨_,w2⟩
  exact⟨fun h=>(by simp at h),fun h=>⟨_,Sub.refl _,(w2 h).2.1 trivial b hb⟩⟩
 revert hh
 refine lM (fun out τ=>(out.length:Int)<=n/\∃(s':ae)(r:cZ),τ=⟨[(0,.ref B 0),(1,.int .i64 a),(8,.int .i64 n),(9,jk r out.length)],[],jb s' r out⟩/\Sub s s'/\fY s' r out) ⟨C3,s,some (b,n.toNat,flat (List.replicate n.toNat (0:UInt8))),rfl,Sub.refl s,(show fY s (some (b,n.toNat,flat (List.replicate n.toNat (0:UInt8)))) ([]:List UInt8) from⟨hb,AT,BY,by show((flat ([]:List UInt8))++flat (List.replicate n.toNat (0:UInt8))).length=_;rw[qI,List.nil_append,ax,List.length_replicate],aH _⟩)⟩ ?_
 rintro J out τ ⟨hl,s',r,rfl,gn,hok⟩
 have p3:=jR hok (gn _ _ q3)
 have p5:=jR hok (gn _ _ q5)
 rw[LL]
 refine Xh6 p3 p5 ?_
 rintro⟨w1,w2⟩
 refine⟨fun hc=>⟨By,By,?_⟩,fun hc=>?_⟩
 ·obtain⟨Tq,w1⟩:=w1 hc
  have hc':(out.length:Int)<n:=J_
  have wA:aC (a+out.length)=a+out.length:=an AT AT
  rw[wA]at Tq w1⊢
  have hm:0<=(a+(out.length:Int)).tmod 4096:=Int.tmod_nonneg _ AT
  have hm2:(a+(out.length:Int)).tmod 4096<4096:=Int.tmod_lt_of_pos _ By
  have q7':=q7 (aC ((a+(out.length:Int)).tdiv 4096))
  cases hmk:g.sI (aC ((a+(out.length:Int)).tdiv 4096))with
  |none=>rw[hmk]at Tq;cases Tq
  |some c=>
   rw[hmk]at q7' w1
   obtain⟨c1,b',c2,c3,c4⟩:=q7'
   rw[T8 q6 c2]
   refine Xf4 ?_
   rw[an (n:=n -out.length) AT AT]
   generalize hT:(a+(out.length:Int)).tmod 4096=T at hm hm2 w1⊢
   refine⟨⟨hm,AT,AT⟩,⟨AT,AT,AT⟩,?_⟩
   have hnb:jb s' r out b'=some (.cells (flat c)):=jR hok (gn _ _ c4)
   have hf:(flat c).length=4096:=by rw[ax,c1];rfl
   have e1:(min ((4096 -T).toNat:Int) (n -out.length)).toNat=min (4096 -T.toNat) (n -out.length).toNat:=AT
   rw[e1,Cl AT,uv hnb AT]
   have ZM:=lG c 1 T.toNat (min (4096 -T.toNat) (n -out.length).toNat) rfl
   rw[Nat.mul_one]at ZM
   rw[ZM,aH]
   have hxl:((c.drop T.toNat).take (min (4096 -T.toNat) (n -out.length).toNat)).length=min (4096 -T.toNat) (n -out.length).toNat:=Xa5
   have afH:=JU (E:=?_) (d:=?_) (K:=?_) (by':=1) (z:=(0:UInt8)) (x:=(c.drop T.toNat).take (min (4096 -T.toNat) (n -out.length).toNat)) (s:=s') (r:=r) (l:=out) (sz:=1) ?_ hok rfl (by rw[hxl];omega) (by rw[hxl];unfold room;omega) ?_
   ·rw[hxl]at afH
    exact afH
   ·rfl
   ·intro s2 r' g1 g2
    refine Xf4 ?_
    refine w1 _ ⟨?_,s2,r',rfl,fun b o hb=>g1 b o (gn b o hb),g2⟩
    have aj2:(List.take (min (4096 -T.toNat) (n -out.length).toNat) (List.drop T.toNat ((some c).getD []))).length=min (4096 -T.toNat) (n -out.length).toNat:=hxl
    rw[aj2]
    omega
 ·have w2:=(w2 hc).2.2 r s' gn hok
  exact⟨_,Sub.refl _,w2⟩
def Yj{G:Gh}{w:World}{s s2:ae}{n sz:Nat}{cs:List AV}{x:Bool}{v:Value}{r:List AV}(hg:cE G w)(hs:bc G w s)(hl2:cs.length=n*sz)(hvw:views cs=cs)
 (h:(∃b cap sp,r=[.arr b 0 n cap,.bool x]/\s b=some (.cells (cs++sp))/\0<cap/\n<=cap/\(cs++sp).length=cap*sz/\Sub s2 (s.del b))\/(n=0/\cs=[]/\Sub s2 s/\∃b,r=[.arr b 0 0 0,.bool x]))(hr:nz G w r v):
 ∃G2,nf G G2/\cE G2 w/\bc G2 w s2/\nz G2 w [.sl true sz n cs,.bool x] v:=by
 have two:∀{a:AV}{v:Value},nz G w [a,.bool x] v->∃y0:Value,v=.tuple #[y0,.bool x]/\VR w G.R a y0/\dS G w (.res 0) a y0:=by
  intro a v hr
  obtain⟨ys,rfl,hz,hc⟩:=hr
  have h2:ys.size=2:=hz
  have e0:=hc 0 a ys[0] rfl BY
  have e1:=hc 1 (.bool x) ys[1] rfl BY
  have e2:=VR.iu e1.1
  refine⟨ys[0],?_,e0.1,e0.2⟩
  congr 1
  apply Array.ext
  ·simp[h2]
  ·intro i h3 h4
   match i,h3 with
   |0,_=>rfl
   |1,_=>exact e2
   |i+2,h3=>omega
 have fin:∀{G2:Gh}{y0:Value},nz G2 w [.sl true sz n cs] y0->nz G2 w [.sl true sz n cs,.bool x] (.tuple #[y0,.bool x]):=by
  intro G2 y0 h
  refine⟨_,rfl,rfl,fun j a y hj hy=>?_⟩
  match j,hj with
  |0,hj=>cases hj;cases hy;exact h
  |1,hj=>cases hj;cases hy;exact⟨.bool _,trivial⟩
 rcases h with⟨b,cap,sp,rfl,hb,hc,hn,hl,gn⟩|⟨rfl,rfl,gn,b,rfl⟩
 ·obtain⟨y0,rfl,k0,k0'⟩:=two hr
  obtain⟨G2,k1,k2,k3,k4⟩:=Pr hs hg hb hc hn hl hl2 hvw ⟨k0,k0'⟩
  exact⟨G2,k1,k2,k3.sub gn,fin k4⟩
 ·obtain⟨y0,rfl,k0,k0'⟩:=two hr
  exact⟨G,nf.refl G,hg,hs.sub gn,fin (Ly ⟨k0,k0'⟩)⟩
def Ch{s0 s:ae}{B:Nat}{g:iQ}{a most:Int}{r:List UInt8×Bool}(h:fp s0 s B g)(ht:g.total<=2147483647)(hr:jD g a most=some r):FE prog 71 [.ref B 0,.int .i64 a,.int .i64 most] s [.sl true 1 r.1.length (flat r.1),.bool r.2] s:=by
 refine FN.conv (Cg (Q:=fun rs t=>rs=[.sl true 1 r.1.length (flat r.1),.bool r.2]/\t=s\/((∃b cap sp,rs=[.arr b 0 r.1.length cap,.bool r.2]/\t b=some (.cells (flat r.1++sp))/\0<cap/\r.1.length<=cap/\(flat r.1++sp).length=cap*1/\Sub s (t.del b))\/(r.1.length=0/\flat r.1=[]/\Sub s t/\∃b,rs=[.arr b 0 0 0,.bool r.2]))) h ht ⟨r,hr,fun e1 e2=>?_,fun e1 b hb=>?_,fun r' s' h1 h2=>?_⟩) fun rs t hq G w v hg hs hv=>?_
 ·rw[e1,e2];exact .inl ⟨rfl,rfl⟩
 ·rw[e1];exact .inr (.inr ⟨rfl,rfl,(Sub.refl s).set hb,b,rfl⟩)
 ·cases r' with
  |none=>
   have e:=h2
   rw[e];exact .inr (.inr ⟨rfl,rfl,h1,0,rfl⟩)
  |some x=>
   obtain⟨b,cap,sp⟩:=x
   obtain⟨k1,k2,k3,k4,k5⟩:=h2
   refine .inr (.inl ⟨b,cap,sp,rfl,bp,k2,k3,k4,?_⟩)
   show Sub s ((s'.set b _).del b)
   rw[jV k1];exact h1
 ·rcases hq with⟨rfl,rfl⟩|hq
  ·exact⟨_,_,G,⟨rfl,rfl⟩,nf.refl G,hg,hs,hv⟩
  ·obtain⟨G2,k1,k2,k3,k4⟩:=Yj hg hs (by rw[ax];rfl) (aH _) hq hv
   exact⟨_,_,G2,⟨rfl,rfl⟩,k1,k2,k3,k4⟩
def v7:IC:=dec 0x13fa65ed48ae291c64cf6dd7a030fc83adf1008c2069d5e552f70d4ea16cd0702f3e999de826aefbdddd2554d4c0037b0f397dd91017dbde9906851b6e3ada231493bd9176c71a4192fe138a272ac0aac87bda6f5318e2ab07b6ea45ef3ce54a5f42c187362ae0c30b2ae1869153532ff1b3e5b3bbfbaebdd5cba9953b1df68ad02703030e4da8c279bb137fc631ed3300da6e703e2294ae39d8ae92868d7c0d34fad7cf4702d7bbb9ef76636d5896f97a3454e0fa8caa0a1efe72a573433ca27eb4007dd7a34e8c491481919df04d2026314bb345d8783db68d6481f28bbb89c5def3ee8a3c4b422b4efb38699ae3a3a34c16f30a34e914678ee3a5fec82c2de30222c02e7c5bd7069e809a02c0084ed
def ER:eO prog 38 56 [⟨4,true,none⟩,⟨5,false,some (6,true)⟩,⟨6,true,none⟩,⟨7,true,none⟩] v7=true:=B_
abbrev OBJ(x:aJ):AV:=.agg [.int .i64 x.V.Kind,.int .i64 x.V.N,.str x.V.S.b,.sl false 4 x.V.L.length (flat x.V.L),.bool x.Stream,.str x.Data.b]
def IM(g:iQ)(a:Int):Int->Option (Int⊕(Int×aJ×Int×Int)):=fun most=>
 aQ (jD g a most) fun x=>
 aQ (eX x.1 0 x.2) fun y=>
 if(y.2.2.2==6)&&((x.1.length:Int)==most)then some (.inl (aC (most*2)))
 else if y.2.2.2==6 then aQ (lC g.known (max 0 a)) fun u=>some (.inr (0,y.2.1,min g.total u,y.2.2.2))
 else if y.2.2.2 !=0 then some (.inr (0,y.2.1,0,18))
 else some (.inr (y.1,y.2.1,0,y.2.2.2))
def kR(g:iQ)(a:Int):Option (Int×aJ×Int×Int):=iter (IM g a) 4096
def EG{s0 s:ae}{B:Nat}{g:iQ}{a:Int}{Q:List AV->ae->Prop}(h:fp s0 s B g)(ht:g.total<=2147483647):ok (kR g a) (fun r=>Q [.int .i64 r.1,OBJ r.2.1,.int .i64 r.2.2.1,.int .i64 r.2.2.2] s)->FN prog 38 [.ref B 0,.int .i64 a] s Q:=by
 intro hh
 refine FN.j4 (FO ER rfl rfl ?_)
 rw[v7]
 refine Xf7 ?_
 revert hh
 rw[kR]
 refine Xe2 ?_
 refine lM (fun most τ=>τ=⟨[(0,.ref B 0),(1,.int .i64 a),(5,.loc [.int .i64 0,.int .i64 0,.str [],.sl true 4 0 [],.bool false,.str []]),(8,.int .i64 most)],[],s⟩) rfl ?_
 rintro J most τ rfl
 rw[IM]
 refine Xe2 ?_
 rintro⟨x,hx,hh⟩
 refine FE.app (Ch h ht hx) ?_
 refine⟨rfl,?_⟩
 refine Xe2 ?_
 obtain⟨y,hy,hh⟩:=hh
 refine FE.app (CN hy) ?_
 refine⟨rfl,?_⟩
 revert hh
 refine Xe2 ?_
 rintro⟨c1,c2⟩
 refine⟨fun hc=>c1 hc _ rfl,fun hc=>⟨fun hd=>?_,fun hd=>⟨fun he=>⟨s,Sub.refl s,((c2 hc).2 hd).1 he⟩,fun he=>⟨s,Sub.refl s,((c2 hc).2 hd).2 he⟩⟩⟩⟩
 obtain⟨u,hu,hq⟩:=(c2 hc).1 hd
 refine⟨[.int .i64 (min g.total u)],rfl,sG h ⟨u,hu,rfl,rfl⟩,?_⟩
 refine Xe2 ?_
 exact⟨s,Sub.refl s,hq⟩
end Go.AB
end
section
set_option maxRecDepth 16000
namespace Go.AB
open Go
open Go.Proofs.Tryz (prog)
attribute[-go_sem] cj cS bK ch
structure dq where
 df:(List Int)
 nA:Int
instance:aP dq:=⟨2,fun x=>[.sl false 1 x.df.length (flat x.df),.int .i64 x.nA],(dq.mk [] 0),By,fun _=>rfl,fun _=>rfl⟩
def oB(t_0:dq)(n_1:Int):Option (Int×Bool):=
 a8 ((!((decide (n_1<1))||(decide (n_1>(t_0.df.length:Int)))))=true->0<=aC (n_1 -1)/\aC (n_1 -1)<t_0.df.length)<|
 if((decide (n_1<1))||(decide (n_1>(t_0.df.length:Int))))||(decide (ix t_0.df (aC (n_1 -1))<0))then
  some (0,false)
 else
  a8 (0<=aC (n_1 -1)/\aC (n_1 -1)<t_0.df.length)<|
  some (ix t_0.df (aC (n_1 -1)),true)
def Ez{t_0 n_1}:FF 36 [.agg [.sl false 1 t_0.df.length (flat t_0.df),.int .i64 t_0.nA],.int .i64 n_1] (oB t_0 n_1) fun r=>[.int .i64 r.1,.bool r.2]:=by
 intro s Q
 exact FC 30 [⟨4,true,none⟩,⟨5,true,none⟩] 0x9663bcea1b12f34814ac4fef1860db15c8407573e26ebd6f767b64ad2d72b2d89f99ed8c4289332e62bf3c0fe964a0b59f0c02ffe3c3bc831e7cc6f5048dfc4cf6bcb1459577b0a9fcc73958eb0c510a93bbf8572eeb76bb300db200c5f90981dc oB.eq_1
def Ey{t_0 n_1}{s:ae}{r:Int×Bool}(h:oB t_0 n_1=some r):FE prog 36 [.agg [.sl false 1 t_0.df.length (flat t_0.df),.int .i64 t_0.nA],.int .i64 n_1] s [.int .i64 r.1,.bool r.2] s:=Ez ⟨r,h,rfl,rfl⟩
end Go.AB
end
section
set_option maxRecDepth 16000
namespace Go.AB
open Go
open Go.Proofs.Tryz (prog)
attribute[-go_sem] Nat.add_zero mO cF
def C5:IC:=dec 0xd8c69249fa44498fbffd2ef97d2d0d3ccd7ee91dbfd5c2bd20e68824473a
def No:eO prog 39 12 [⟨2,true,none⟩] C5=true:=B_
def yu:IC:=dec 0x116198e47d8eee1a15ad3e77e55e6a5940a4c4c64aebd14ca3e5a534d213cc00473a
def Ir:eO prog 31 10 [⟨2,true,none⟩] yu=true:=B_
def AO:IC:=dec 0x8a2ab5215a44ce5602887263c93238a462b7215859cad95d2be9b1814b5909b1839a45c60acc2bdcdc78a9aa686df7537103d7997fa4c71c3250db9a91ad28402d9003dfb251eb37e00cd8c9c
def K4:eO prog 10 20 [⟨4,false,some (6,true)⟩,⟨5,true,none⟩,⟨6,true,none⟩] AO=true:=B_
def AP:IC:=dec 0x5489c8e5bed1183afea041f150ee99caf4c1d337fec28a642c27ec54c04ff410aa2ce8b228a0961dc
def K5:eO prog 9 13 [⟨4,true,none⟩] AP=true:=B_
def yr:IC:=dec 0x614aa674874176f74b901863f5449fc8fe4b17bfb3931dde2d1d66aec1d9eafe04e437837c1de62e922a9a846ab52199bf72d5d650ebb858d1096c86d50db1d1f1ea70be97110ddf666fa5f6ce232c6539f55e1f238eae32135da64066983a716ed5285eab984218c042f35b55c22de2e7d474ae6bb84bc457030cfbd5020a9aba965efe43e6d23a8bf6df34b708fb35cdbaea272f51227c2d5a8980e13c52e4db26c296b42c02ba9f1d8ac9419283e5bef98b20dfbd0daa852ac4cf1a8d3934042d429c968da7c6bc270d49b7d69239eb20276d25d866aa9447a605713818d9a06bedb0c02a5c04e9de281a6ceb1230a71f38229b20d4bd5d74b002d9003dfb251eb37e00cd8c9c
def Iq:eO prog 35 49 [⟨4,false,some (6,true)⟩,⟨5,true,none⟩,⟨6,true,none⟩] yr=true:=B_
def zh(s:ae)(F:Nat)(root count:Int)(c:Nat)(fF:List AV):Prop:=s F=some (.cells [.int .i64 root,.int .i64 count,.fn c [] fF])
def CK{s:ae}{F c:Nat}{root count:Int}{fF:List AV}{Q:List AV->ae->Prop}(h:zh s F root count c fF)(hq:Q [.bool true] s):FN prog 39 [.ref F 0] s Q:=by
 have h:s F=some (.cells [.int .i64 root,.int .i64 count,.fn c [] fF]):=h
 refine FN.j4 (FO No rfl rfl ?_)
 rw[C5]
 refine Xf7 ?_
 refine Xg0 h ?_
 exact⟨s,Sub.refl s,hq⟩
def ya{s:ae}{F c:Nat}{root count:Int}{fF:List AV}{Q:List AV->ae->Prop}(h:zh s F root count c fF)(hq:Q [.int .i64 root] s):FN prog 31 [.ref F 0] s Q:=by
 refine FN.j4 (FO Ir rfl rfl ?_)
 rw[yu]
 refine Xf7 ?_
 refine Xe2 ?_
 refine CK h ?_
 have h:s F=some (.cells [.int .i64 root,.int .i64 count,.fn c [] fF]):=h
 refine Xg0 h ?_
 exact⟨fun h=>h.elim,fun _=>⟨s,Sub.refl s,hq⟩⟩
abbrev TAB(t:dq):List AV:=[.sl false 1 t.df.length (flat t.df),.int .i64 t.nA]
def Y5(s:ae)(F B:Nat)(t:dq):Prop:=∃tb sb,zh s F t.nA t.df.length 35 [.ref tb 0,.ref sb 0]/\s tb=some (.cells (TAB t))/\s sb=some (.cells [.ref B 0])
def AH{s:ae}{B:Nat}{t:dq}{Q:List AV->ae->Prop}(hq:∀F s',Sub s s'->Y5 s' F B t->Q [.ref F 0] s'):FN prog 9 [.ref B 0,.agg (TAB t)] s Q:=by
 refine FN.j4 (FO K5 rfl rfl ?_)
 rw[AP]
 refine Xf7 ?_
 refine Xe2 ?_
 intro sb hsb tb htb F hF
 have n1:=htb
 rw[fB]at n1
 have n2:=hF
 rw[fB]at n2
 have n3:=n2.2
 rw[fB]at n3
 exact⟨_,Sub.refl _,hq F _ ((((Sub.refl s).set hsb).set htb).set hF) ⟨tb,sb,cD ..,by rw[ai (Ne.symm n2.1),cD],by rw[ai (Ne.symm n3.1),ai (Ne.symm n1.1),cD]⟩⟩
def wC:aJ:=⟨⟨0,0,⟨[]⟩,[]⟩,false,⟨[]⟩⟩
def ma(g:iQ)(t:dq)(n:Int):Option (aJ×Int×Int):=
 aQ (oB t n) fun p=>
 if !p.2 then some (wC,0,0)
 else if decide (p.1>=g.total)then some (wC,0,18)
 else aQ (kR g p.1) fun r=>
 if r.2.2.2 !=0 then some (wC,r.2.2.1,r.2.2.2)
 else if r.1 !=n then some (wC,0,18)
 else some (r.2.1,0,0)
def HZ{s0 s:ae}{B tb sb:Nat}{g:iQ}{t:dq}{n:Int}{Q:List AV->ae->Prop}(h:fp s0 s B g)(ht:g.total<=2147483647)(h1:s tb=some (.cells (TAB t)))(h2:s sb=some (.cells [.ref B 0])):
 ok (ma g t n) (fun r=>Q [OBJ r.1,.int .i64 r.2.1,.int .i64 r.2.2] s)->FN prog 35 [.int .i64 n,.ref tb 0,.ref sb 0] s Q:=by
 intro hh
 refine FN.j4 (FO Iq rfl rfl ?_)
 rw[yr]
 refine Xf7 ?_
 revert hh
 rw[ma]
 refine Xg0 h1 ?_
 rintro⟨p,hp,c1,c2⟩
 refine FE.app (Ey hp) ?_
 refine⟨rfl,?_⟩
 refine Xg0 h2 ?_
 refine⟨fun hc=>⟨s,Sub.refl s,c1 hc⟩,fun hc=>?_⟩
 have c2:=c2 hc
 refine Bb h ?_
 refine Xg0 h2 ?_
 refine⟨fun hd=>⟨s,Sub.refl s,c2.1 hd⟩,fun hd=>?_⟩
 refine EG h ht (aL (c2.2 hd) fun r hr=>?_)
 revert hr
 refine Xe2 ?_
 exact fun⟨d1,d2⟩=>⟨fun e=>⟨s,Sub.refl s,d1 e⟩,fun e=>⟨fun f=>⟨s,Sub.refl s,(d2 e).1 f⟩,fun f=>⟨s,Sub.refl s,(d2 e).2 f⟩⟩⟩
def AG{s:ae}{F c:Nat}{root count n:Int}{fF:List AV}{Q:List AV->ae->Prop}{r:aJ×Int×Int}(h:zh s F root count c fF)(hok:(sS prog c=true)=True)
 (hv:cN (fun x=>match x with|.c a=>a|_=>.undef) (fF.map .c)=some fF)(hc:FE prog c ([.int .i64 n]++fF) s [OBJ r.1,.int .i64 r.2.1,.int .i64 r.2.2] s)(hq:Q [OBJ r.1,.int .i64 r.2.1,.int .i64 r.2.2] s):FN prog 10 [.ref F 0,.int .i64 n] s Q:=by
 refine FN.j4 (FO K4 rfl rfl ?_)
 rw[AO]
 refine Xf7 ?_
 refine Xe2 ?_
 refine CK h ?_
 have h:s F=some (.cells [.int .i64 root,.int .i64 count,.fn c [] fF]):=h
 refine Xe8 h hok ?_
 refine⟨fun h=>h.elim,fun _=>FE.app hc ?_⟩
 refine⟨rfl,?_⟩
 refine Xe2 ?_
 exact⟨s,Sub.refl s,hq⟩
structure kF where
 jx:(List aJ)
 nA:Int
instance:aP kF:=⟨2,fun x=>[.sl false 6 x.jx.length (flat x.jx),.int .i64 x.nA],(kF.mk [] 0),By,fun _=>rfl,fun _=>rfl⟩
def C4:IC:=dec 0x3631a48fe1bbf97ca9c02bf635f465fc738b6340f2c5c42c81a9d8dd58aa26f4c821a175b
def Nn:eO prog 30 11 [⟨2,true,none⟩] C4=true:=B_
def AQ:IC:=dec 0x2e9b51cda3c3fdad75b00771f1fc478f9649c4efde331418a4f3357a36521293338e5ffae3885983fb1540bf7a694570db302c72f3fb2d9f3e0468c98752cabbd854fe4b13a00c8aa0b949de00bea7f2c0128402d9003dfb251eb37e00cd6e3c
def K6:eO prog 67 22 [⟨3,false,some (6,true)⟩,⟨4,true,none⟩,⟨5,true,none⟩] AQ=true:=B_
abbrev DOC(d:kF):List AV:=[.sl false 6 d.jx.length (flat d.jx),.int .i64 d.nA]
def MY{s:ae}{d:kF}{Q:List AV->ae->Prop}(hq:∀F db s',Sub s s'->zh s' F d.nA d.jx.length 67 [.ref db 0]->s' db=some (.cells (DOC d))->Q [.ref F 0] s'):FN prog 30 [.agg (DOC d)] s Q:=by
 refine FN.j4 (FO Nn rfl rfl ?_)
 rw[C4]
 refine Xf7 ?_
 refine Xe2 ?_
 intro db hdb F hF
 have n2:=hF
 rw[fB]at n2
 exact⟨_,Sub.refl _,hq F db _ (((Sub.refl s).set hdb).set hF) (cD ..) (by rw[ai (Ne.symm n2.1),cD])⟩
def CJ(d:kF)(n:Int):Option (aJ×Int×Int):=if decide (n<1)||decide (n>(d.jx.length:Int))then some (wC,0,0)else some (ix d.jx (n -1),0,0)
def Kz{s:ae}{d:kF}{db:Nat}{n:Int}{Q:List AV->ae->Prop}(hl:d.jx.length<=2147483647)(h:s db=some (.cells (DOC d))):ok (CJ d n) (fun r=>Q [OBJ r.1,.int .i64 r.2.1,.int .i64 r.2.2] s)->FN prog 67 [.int .i64 n,.ref db 0] s Q:=by
 intro hh
 refine FN.j4 (FO K6 rfl rfl ?_)
 rw[AQ]
 refine Xf7 ?_
 revert hh
 rw[CJ]
 refine Xg0 h ?_
 rintro⟨c1,c2⟩
 refine⟨fun hc=>⟨s,Sub.refl s,c1 hc⟩,fun hc=>?_⟩
 have hn:=Xr
 have c2:=c2 hc
 have hw:aC (n -1)=n -1:=an AT AT
 rw[hw]
 exact⟨AT,s,Sub.refl s,c2⟩
theorem fp.sub{s0 s s':ae}{B:Nat}{g:iQ}(h:fp s0 s B g)(hs:Sub s s'):fp s0 s' B g:=by
 obtain⟨h1,h2,M,es,h3,h4,h5,h6,h7,h8⟩:=h
 exact⟨fun b o hb=>hs b o (h1 b o hb),h2,M,es,hs _ _ h3,h4,hs _ _ h5,h6,fun k=>(h7 k).mono fun b l hb=>hs b _ hb,h8⟩
structure lA where
 B:Nat
 PB:Int
 get:Int->Option (aJ×Int×Int)
def dG(s:ae)(f:lA):Prop:=∀s',Sub s s'->FE prog 31 [.ref f.B 0] s' [.int .i64 f.PB] s'/\∀n r,f.get n=some r->FE prog 10 [.ref f.B 0,.int .i64 n] s' [OBJ r.1,.int .i64 r.2.1,.int .i64 r.2.2] s'
def dG.mono{s s':ae}{f:lA}(h:dG s f)(hs:Sub s s'):dG s' f:=fun s2 h2=>h s2 fun b o hb=>h2 b o (hs b o hb)
def wE(f:lA):Option Int:=some f.PB
def jm(f:lA)(n:Int):Option (aJ×Int×Int):=f.get n
def Et{f:lA}{s:ae}{r:Int}(hv:dG s f)(h:wE f=some r):FE prog 31 [.ref f.B 0] s [.int .i64 r] s:=by
 injection h with h
 rw[<-h]
 exact(hv s (Sub.refl s)).1
def rL{f:lA}{n:Int}{s:ae}{r:aJ×Int×Int}(hv:dG s f)(h:jm f n=some r):FE prog 10 [.ref f.B 0,.int .i64 n] s [OBJ r.1,.int .i64 r.2.1,.int .i64 r.2.2] s:=(hv s (Sub.refl s)).2 n r h
def MN(B:Nat)(d:kF):lA:=⟨B,d.nA,CJ d⟩
def Wu{s:ae}{F db:Nat}{d:kF}(hl:d.jx.length<=2147483647)(h:zh s F d.nA d.jx.length 67 [.ref db 0])(hd:s db=some (.cells (DOC d))):dG s (MN F d):=by
 intro s' hs
 have h':=hs _ _ h
 refine⟨ya h' ⟨rfl,rfl⟩,fun n r hr=>?_⟩
 exact AG h' (eq_true D_) rfl (Kz hl (hs _ _ hd) ⟨r,hr,rfl,rfl⟩) ⟨rfl,rfl⟩
def Lp(B:Nat)(g:iQ)(t:dq):lA:=⟨B,t.nA,ma g t⟩
def Po{s0 s:ae}{F B:Nat}{g:iQ}{t:dq}(h:fp s0 s B g)(ht:g.total<=2147483647)(hN:Y5 s F B t):dG s (Lp F g t):=by
 obtain⟨tb,sb,hF,htb,hsb⟩:=hN
 intro s' hs
 have h':=hs _ _ hF
 refine⟨ya h' ⟨rfl,rfl⟩,fun n r hr=>?_⟩
 exact AG h' (eq_true D_) rfl (HZ (h.sub hs) ht (hs _ _ htb) (hs _ _ hsb) ⟨r,hr,rfl,rfl⟩) ⟨rfl,rfl⟩
end Go.AB
end
section
set_option maxRecDepth 16000
namespace Go.AB
open Go
open Go.Proofs.Tryz (prog)
attribute[-go_sem] cj cS bK ch
def eQ:Nat->aa->aa->Option (Int)
 |0,_,_=>none
 |fuel+1,a_0,b_1=>
  if(decide (a_0.Kind<b_1.Kind))||((a_0.Kind==b_1.Kind)&&((decide (a_0.N<b_1.N))||((a_0.N==b_1.N)&&(Op.bytesLess a_0.S.b b_1.S.b))))then
   some (-1)
  else
   if((a_0.Kind !=b_1.Kind)||(a_0.N !=b_1.N))||(!(a_0.S.b==b_1.S.b))then
    some 1
   else
    yx (
     nE (
      iter (fun(k4:Int)=>
       if(decide (k4<(a_0.L.length:Int)))&&(decide (k4<(b_1.L.length:Int)))then
        a8 (0<=k4/\k4<a_0.L.length)<|
        a8 (0<=k4/\k4<b_1.L.length)<|
        aQ (eQ fuel (ix a_0.L k4) (ix b_1.L k4)) fun r8=>
        if r8 !=0 then
         some (.inr (.inr r8))
        else
         some (.inl (aC (k4+1)))
       else
        some (.inr (.inl ()))) 0) (fun(_:Unit)=>
      some (.inl ()))
     (fun(t7:Int)=>some (.inr t7))) (fun(_:Unit)=>
     if decide ((a_0.L.length:Int)<(b_1.L.length:Int))then
      some (-1)
     else
      if decide ((a_0.L.length:Int)>(b_1.L.length:Int))then
       some 1
      else
       some 0)
    (fun(t3:Int)=>some t3)
def Ab{fuel:Nat}:∀{a_0:aa}{b_1:aa}{s:ae}{Q:List AV->ae->Prop},ok (eQ fuel a_0 b_1) (fun r=>Q [.int .i64 r] s)->FN prog 74 [.agg [.int .i64 a_0.Kind,.int .i64 a_0.N,.str a_0.S.b,.sl false 4 a_0.L.length (flat a_0.L)],.agg [.int .i64 b_1.Kind,.int .i64 b_1.N,.str b_1.S.b,.sl false 4 b_1.L.length (flat b_1.L)]] s Q:=by
 induction fuel with
 |zero=>intros;rename_i h;rw[eQ]at h;exact absurd h (by rw[ok_none];exact fun h=>h)
 |succ fuel ih=>
 have aj4:∀{a_0:aa}{b_1:aa}{s:ae}{r:Int},eQ fuel a_0 b_1=some r->FE prog 74 [.agg [.int .i64 a_0.Kind,.int .i64 a_0.N,.str a_0.S.b,.sl false 4 a_0.L.length (flat a_0.L)],.agg [.int .i64 b_1.Kind,.int .i64 b_1.N,.str b_1.S.b,.sl false 4 b_1.L.length (flat b_1.L)]] s [.int .i64 r] s:=fun h=>ih ⟨_,h,rfl,rfl⟩
 intro a_0 b_1 s Q
 refine FR 103 [⟨4,true,none⟩] 0x3092e9c81f0e399f7e88fe50c3f33d15b76470241560b56f6d04b84c147e226e628a26445d3c60994712146855e6d111ba7a3ff73452ec26bf8d1ebb03c5711a53cd5b52dfa229f06317d5d0b55cf01ac963feca59c9bb66a5385accc57d05f8ff9359b633b6146f8119b946abd0d33d21379f0705d5edb4e641827d44d08cdefe5012cd42cd06b2f9f98a6296568a1e79bb62643111a05d399920e63b273b095fc2765eeaa104ce96c2238d02abeded89811cc0a0e86ca26a30333139325d3143e4b1f052ebc354beebe8887a3035436ef576ca92f7bff0692da4bf28fa01453efa41ff2d3b1d28b1c44dbcac4e6cbd072e740d14518ba7684c56b680f899c3bbb98debf66f9f42798b9bd76214df8fa27e7113a54dedc733392cc0c3c1526293167387a1252c5fa9f737ef65f3ece9be4e92c1df14a659baac65e0f15ad4e2e97867dbaa15252380bad466600b263df7ba1c29653137d9d7600cfe965a03981dc eQ.eq_2 ?_
 repeat'(first
  |(with_reducible first|exact dm|refine b8 ?_ ?_|refine dv ?_|refine c9 (fun _(h:eQ fuel (ix a_0.L k4) (ix b_1.L k4)=some _)=>aj4 h) (fun _=>rfl) (fun r8=>?_))
  |((with_reducible refine cX (fun(k4:Int)=>⟨[(2,.loc [.int .i64 a_0.Kind,.int .i64 a_0.N,.str a_0.S.b,.sl false 4 a_0.L.length (flat a_0.L)]),(3,.loc [.int .i64 b_1.Kind,.int .i64 b_1.N,.str b_1.S.b,.sl false 4 b_1.L.length (flat b_1.L)]),(5,.int .i64 k4)],[],s⟩) ?_ ?_);(first|exact rfl|simp -implicitDefEqProofs only[go_sem,seval]);rintro J k4)
  |((with_reducible refine eH (fun(_:Unit)=>⟨[(2,.loc [.int .i64 a_0.Kind,.int .i64 a_0.N,.str a_0.S.b,.sl false 4 a_0.L.length (flat a_0.L)]),(3,.loc [.int .i64 b_1.Kind,.int .i64 b_1.N,.str b_1.S.b,.sl false 4 b_1.L.length (flat b_1.L)])],[],s⟩) (fun J=>?_) ?_);rotate_left;rintro _)
  |refine Xe2 ?_|exact Xf6)
def mz(a_0:aa)(b_1:aa):Option (Bool):=
 aQ (eQ Wc a_0 b_1) fun r1=>
 some (r1==0)
def E3{a_0 b_1}:FF 42 [.agg [.int .i64 a_0.Kind,.int .i64 a_0.N,.str a_0.S.b,.sl false 4 a_0.L.length (flat a_0.L)],.agg [.int .i64 b_1.Kind,.int .i64 b_1.N,.str b_1.S.b,.sl false 4 b_1.L.length (flat b_1.L)]] (mz a_0 b_1) fun r=>[.bool r]:=by
 intro s Q
 refine FR 9 [⟨4,true,none⟩] 0x11be1a5bec161636df194054487621f374f101cfe965a03981dc mz.eq_1 ?_
 repeat'(first
  |with_reducible refine au (fun _(h:eQ Wc a_0 b_1=some _)=>(iW Ab h:)) (fun r1=>?_)
  |refine Xe2 ?_|exact Xf6)
end Go.AB
end
