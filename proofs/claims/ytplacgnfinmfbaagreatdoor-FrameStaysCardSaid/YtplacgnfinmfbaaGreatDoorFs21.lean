/- A part. -/
import Derived.Test.YtplacgnfinmfbaaGreatDoorFs20
set_option linter.unusedSimpArgs false
set_option linter.unusedVariables false
section
namespace Go.AB
open Go
def cY(s0 s:ae)(H:List (Nat×SO)):Prop:=Sub s0 s/\(∀p∈H,s p.1=some p.2/\s0 p.1=none)/\(H.map Prod.fst).Nodup
theorem cY.perm{s0 s:ae}{H H':List (Nat×SO)}(h:cY s0 s H)(p:H.Perm H'):cY s0 s H':=⟨h.1,fun x hx=>h.2.1 x (p.mem_iff.2 hx),(p.map Prod.fst).nodup_iff.1 h.2.2⟩
theorem cY.nil{s:ae}:cY s s []:=⟨Sub.refl s,fun p hp=>by simp at hp,by simp⟩
theorem cY.get{s0 s:ae}{k:Nat}{o:SO}{H:List (Nat×SO)}(h:cY s0 s ((k,o)::H)):s k=some o:=(h.2.1 _ List.mem_cons_self).1
theorem cY.mem{s0 s:ae}{k:Nat}{o:SO}{H:List (Nat×SO)}(h:cY s0 s H)(hm:(k,o)∈H):s k=some o:=(h.2.1 _ hm).1
theorem cY.tail{s0 s:ae}{p:Nat×SO}{H:List (Nat×SO)}(h:cY s0 s (p::H)):cY s0 s H:=⟨h.1,fun x hx=>h.2.1 x (List.mem_cons_of_mem _ hx),(List.nodup_cons.1 h.2.2).2⟩
theorem cY.set{s0 s:ae}{k:Nat}{o o':SO}{H:List (Nat×SO)}(h:cY s0 s ((k,o)::H)):cY s0 (s.set k o') ((k,o')::H):=by
 obtain⟨h1,h2,h3⟩:=h
 have h0:=(h2 _ List.mem_cons_self).2
 refine⟨fun b x hb=>?_,fun p hp=>?_,h3⟩
 ·rw[ah (fun e=>by subst e;rw[h0]at hb;cases hb)];exact h1 b x hb
 ·rcases List.mem_cons.1 hp with rfl|hp
  ·exact⟨fH ..,h0⟩
  ·obtain⟨q1,q2⟩:=h2 p (List.mem_cons_of_mem _ hp)
   refine⟨?_,q2⟩
   rw[ah (fun e=>?_)];exact q1
   have:=(List.nodup_cons.1 h3).1
   exact this (by show k∈H.map Prod.fst;rw[<-e];exact List.mem_map_of_mem hp)
theorem cY.aeY{s0 s:ae}{H:List (Nat×SO)}(h:cY s0 s H){k:Nat}(hk:s k=none):k∉H.map Prod.fst:=by
 intro hm
 obtain⟨p,hp,rfl⟩:=List.mem_map.1 hm
 rw[(h.2.1 p hp).1]at hk;cases hk
theorem cY.alloc{s0 s:ae}{k:Nat}{o:SO}{H:List (Nat×SO)}(h:cY s0 s H)(hk:s k=none):cY s0 (s.set k o) ((k,o)::H):=by
 have hn:=h.aeY hk
 obtain⟨h1,h2,h3⟩:=h
 have h0:s0 k=none:=by
  cases e:s0 k with
  |none=>rfl
  |some x=>rw[h1 k x e]at hk;cases hk
 refine⟨h1.set hk,fun p hp=>?_,by rw[List.map_cons];exact List.nodup_cons.2 ⟨hn,h3⟩⟩
 rcases List.mem_cons.1 hp with rfl|hp
 ·exact⟨fH ..,h0⟩
 ·obtain⟨q1,q2⟩:=h2 p hp
  exact⟨by rw[ah (fun e=>by rw[e,hk]at q1;cases q1)];exact q1,q2⟩
theorem cY.sub{s0 s s':ae}{H:List (Nat×SO)}(h:cY s0 s H)(hs:Sub s s'):cY s0 s' H:=⟨fun b o hb=>hs b o (h.1 b o hb),fun p hp=>⟨hs _ _ (h.2.1 p hp).1,(h.2.1 p hp).2⟩,h.2.2⟩
theorem QP{s:ae}{k j:Nat}(h:j≠k):(s.del k) j=s j:=by unfold ae.del;rw[if_neg h]
theorem HE{s:ae}{k:Nat}{o:SO}(h:s k=some o):(s.del k).set k o=s:=by
 funext i
 unfold ae.set ae.del
 by_cases e:i=k
 ·subst e;simp[h]
 ·simp[e]
theorem cY.del{s0 s:ae}{k:Nat}{o:SO}{H:List (Nat×SO)}(h:cY s0 s ((k,o)::H)):cY s0 (s.del k) H/\(s.del k) k=none:=by
 obtain⟨h1,h2,h3⟩:=h
 have h0:=(h2 _ List.mem_cons_self).2
 refine⟨⟨fun b x hb=>?_,fun p hp=>?_,(List.nodup_cons.1 h3).2⟩,by unfold ae.del;simp⟩
 ·rw[QP (fun e=>by subst e;rw[h0]at hb;cases hb)];exact h1 b x hb
 ·obtain⟨q1,q2⟩:=h2 p (List.mem_cons_of_mem _ hp)
  refine⟨?_,q2⟩
  rw[QP (fun e=>?_)];exact q1
  have:=(List.nodup_cons.1 h3).1
  exact this (by show k∈H.map Prod.fst;rw[<-e];exact List.mem_map_of_mem hp)
section
variable{α:Type}[bp α]
def oj(r:cO)(l:List α):List (Nat×SO):=match r with
 |none=>[]
 |some (b,_,sp)=>[(b,.cells (flat l++sp))]
def M0(r:cO)(l:List α):Prop:=match r with
 |none=>l=[]
 |some (_,cap,sp)=>0<cap/\l.length<=cap/\(flat l++sp).length=cap*bp.w α/\views sp=sp
theorem cY.row{s0 s:ae}{r:cO}{l:List α}{H:List (Nat×SO)}(h:cY s0 s (oj r l++H))(hf:M0 r l):∃s1,s=ji s1 r l/\gR s1 r l/\cY s0 s1 H:=by
 cases r with
 |none=>exact⟨s,rfl,hf,h⟩
 |some x=>
  obtain⟨b,cap,sp⟩:=x
  have h':cY s0 s ((b,.cells (flat l++sp))::H):=h
  obtain⟨h1,h2⟩:=h'.del
  exact⟨s.del b,(HE h'.get).symm,⟨h2,hf⟩,h1⟩
theorem cY.YF{s0 s1:ae}{r:cO}{l:List α}{H:List (Nat×SO)}(h:cY s0 s1 H)(ho:gR s1 r l):cY s0 (ji s1 r l) (oj r l++H)/\M0 r l:=by
 cases r with
 |none=>exact⟨h,ho⟩
 |some x=>
  obtain⟨b,cap,sp⟩:=x
  exact⟨h.alloc ho.1,ho.2⟩
end
end Go.AB
end
section
set_option maxRecDepth 16000
namespace Go.AB
open Go
open Go.Proofs.Tryz (prog)
attribute[-go_sem] Nat.add_zero pj cT
def ll:IC:=dec 0x135b9169b7b375df6a7a18c2e418e74547fa5d964b0eb515f4aa3feb37dd945002c003e1729f9b3d8824473a
theorem sm:aS prog 158 16 [⟨2,true,none⟩] ll=true:=by kernel_rfl
def nV:IC:=dec 0x5865d3436d5f61cdebf750992e410f0f4a64aaa0895b0366a557b26a1755ddeddcc15bbd11cd7c7fa9a4f4db163df1c5075ae3b98bec990bb41d9388473a
theorem xC:aS prog 77 21 [⟨2,true,none⟩] nV=true:=by kernel_rfl
def ma:IC:=dec 0xf0474b042b806c456287e922c2b763621e21bb46dbd3d5dd4414ba493d247f7501e5c4e9251d6d6aefcefeed08f02008d789963740005eb3841d8e2556cd25e3e264ecf7e7672192307854b776c4958717fd817113fa306e1d9d3678c8da57269a0c4752fe734d3c14740d3980083fa
theorem tO:aS prog 118 32 [⟨4,true,none⟩] ma=true:=by kernel_rfl
def nS:IC:=dec 0x2e72d6f9e204819976fef7d172d54ac05472cc750c73f4276302e3287b35c2803d1664574076ba6ee1c2e9f58275e79d24e784d1275a59acb9fe6a5e9fd42ac1f0d0a709a788b6cdbb0a7316e863b622d9922cfc6b0d2a485de525e644429d8a6a59f9fce99157497cbb1e3ab2cc27ea885f58363faeef23cb1ca46591292b2188f0a3a5ffad70d5c1a170d845a01997259e1d56c9e2a1644022dd20eca4ec60efb0b1d15c715c76d32d39967f3f7f23162a2a36ac2f3a2f8701c594ec31d85005710e89fc854052e892043da759a9937594a19b89c474be4c07daa2d139bca295ceff7ad7bac9e47604b67371a451a338b0c155a33fc5bf223f5db32e584783510a66dd7bbb6a5d17b64a9a10f16fcda471dae9da7918b003cd1eb37e0092b24b
theorem xA:aS prog 119 81 [⟨4,false,some (4,true)⟩,⟨5,true,none⟩] nS=true:=by kernel_rfl
def ln:IC:=dec 0x258b7d3a0d9a5d6bb3337f0e0a483f421590145d20c6ee55129ab4c58c0f1605c5a0bc203c46c934f84f37faaebff9ecafd857d645906898d2d0f75d7966dbf2d2c63738cd61d25a36469f5e9b29377b7dd062da56b03fa5408cf80b91f8bb02203af2b6d1f8002c39e8812ec18843b42d1aa3d842b2c500eb23ac03c0fc37378f10cb6f2dcf511f886c88374986b0be7dc63d6523f58a5fcee7c8730c428fc0dcbeb17f65582c00795da2b3550805b3ae0d3d00dc06a99a03c
theorem sn:aS prog 120 47 [⟨4,false,some (4,true)⟩,⟨5,true,none⟩] ln=true:=by kernel_rfl
def mV:IC:=dec 0x9eff11f0280aa8837d2d97642d82df006c3ebf6398fb79ab46e05671d25550adf6bacd97a18e69bd447d12218ce85ecb3c3b5c16e4b2d642c789a2c86c5f3c21dabece5bde42b5079c77bf3d9295dc8504c1a5bd23fdba4850d8ca386c4b545d7cf188f0a51dd5e7d138f5a769df5a2308844db3568533a4c077f77d9a7cfbbf6e3bc39a2586ad1a52b09259717e62565db6dddfecaaf09c0202eb79fae19dc7ee56b715643357f25e3da913663ec56249f80b719f08ca661b577e2d28a98dbc6047ca84f4230504cea1546074f11b4cec3eed10f3a621b90513724997d4b1cb49ac565649463132fc8edc18fb443a16ad4024f67c8aad289c17b5636465d407f97fbc7ac609956324e27fc605128db3ae0d3d00dc06a99a08d
theorem vT:aS prog 76 54 [⟨4,false,some (4,true)⟩,⟨5,true,none⟩,⟨6,true,none⟩] mV=true:=by kernel_rfl
structure LG where
 n:Option Nat
def LG.c(x:LG):AV:=match x.n with
 |none=>.fj
 |some b=>.ref b 0
instance:bp LG:=⟨1,fun x=>[x.c],⟨none⟩,by decide,fun _=>rfl,fun x=>by obtain⟨_|b⟩:=x<;>rfl⟩
def refs(ids:List (Nat×cO)):List LG:=ids.map fun i=>⟨some i.1⟩
def Sc(r:cO)(v:aQ):SO:=.cells [.bool v.fe,iO r v.l_.length]
def lvH(id:Nat×cO)(v:aQ):List (Nat×SO):=(id.1,Sc id.2 v)::oj id.2 v.l_
def Bv:List (Nat×cO)->List aQ->List (Nat×SO)
 |id::ids,v::vs=>lvH id v++Bv ids vs
 |_,_=>[]
def VH:List (Nat×cO)->List aQ->Prop
 |id::ids,v::vs=>M0 id.2 v.l_/\VH ids vs
 |[],[]=>True
 |_,_=>False
theorem qq:∀{ids:List (Nat×cO)}{vs:List aQ},VH ids vs->ids.length=vs.length
 |[],[],_=>rfl
 |_::ids,_::vs,h=>by rw[List.length_cons,List.length_cons,qq h.2]
 |[],_::_,h=>h.elim
 |_::_,[],h=>h.elim
structure PS where
 b:List UInt8
 at_:Int
 last:Bool
 st:List aQ
def iY(p:PS)(rr:cO):List AV:=[.sl false 1 p.b.length (flat p.b),.int .i64 p.at_,.bool p.last,iO rr p.st.length]
def qQ(s0 s:ae)(B:Nat)(p:PS)(rr:cO)(ids:List (Nat×cO)):Prop:=VH ids p.st/\M0 rr (refs ids.reverse)/\cY s0 s ((B,.cells (iY p rr))::(oj rr (refs ids.reverse)++Bv ids p.st))
theorem qB(ids:List (Nat×cO)):(refs ids).length=ids.length:=by unfold refs;simp
theorem qQ.cell{s0 s:ae}{B:Nat}{p:PS}{rr:cO}{ids:List (Nat×cO)}(h:qQ s0 s B p rr ids):s B=some (.cells (iY p rr)):=h.2.2.get
theorem qQ.ref{s0 s:ae}{B:Nat}{p:PS}{rr:cO}{id:Nat×cO}{ids:List (Nat×cO)}(h:qQ s0 s B p rr (id::ids)):
 ∃rb cap sp,rr=some (rb,cap,sp)/\s rb=some (.cells (flat (refs (id::ids).reverse)++sp))/\(flat (refs (id::ids).reverse)++sp)[ids.length]? =some (.ref id.1 0):=by
 obtain⟨h1,h2,h3⟩:=h
 have hl:0<(refs (id::ids).reverse).length:=by rw[qB];simp
 cases rr with
 |none=>rw[show refs (id::ids).reverse=[] from h2]at hl;simp at hl
 |some x=>
  obtain⟨rb,cap,sp⟩:=x
  refine⟨rb,cap,sp,rfl,h3.mem (by simp[oj]),?_⟩
  have hi:ids.length<(refs (id::ids).reverse).length:=by rw[qB];simp
  have:=Ma (refs (id::ids).reverse) sp (i:=ids.length) (r:=0) hi (by decide)
  rw[show ids.length*bp.w LG+0=ids.length by show ids.length*1+0=_;omega]at this
  rw[this]
  have e:(refs (id::ids).reverse)[ids.length]=⟨some id.1⟩:=by
   unfold refs
   simp
  rw[e];rfl
theorem OF{cs:List AV}{off:Nat}{a:AV}(h:cs[off]? =some a):off+1<=cs.length/\AB.sub cs off 1=[a]:=by
 obtain⟨h1,h2⟩:=List.getElem?_eq_some_iff.1 h
 refine⟨h1,?_⟩
 unfold AB.sub
 rw[List.drop_eq_getElem_cons h1,h2];rfl
theorem Pv{cs:List AV}{off b:Nat}(h:cs[off]? =some (.ref b 0)):KI [.fj] false off (some (.cells cs))=.fw (off+1<=cs.length) (.ref b 0):=by
 show ckP _ (ny false (pad [.fj] (views (AB.sub cs off 1))))=_
 rw[(OF h).2]
 rfl
theorem I9{s0 s:ae}{B:Nat}{p:PS}{rr:cO}{ids:List (Nat×cO)}(h:qQ s0 s B p rr ids)(cf:p.st.length<=room){Q:List AV->ae->Prop}(hn:p.st=[]->Q [.fj] s)
 (hc:∀id fM v vs,ids=id::fM->p.st=v::vs->Q [.ref id.1 0] s):FN prog 77 [.ref B 0] s Q:=by
 have hB:=h.cell
 have hlen:=qq h.1
 refine FO xC rfl rfl ?_
 rw[nV]
 conv in dec _=>reduce
 unfold iY at hB
 simp -implicitDefEqProofs only[go_sem,seval,hB]
 refine⟨fun he=>hn (List.eq_nil_of_length_eq_zero (by simpa using he)),fun hne=>?_⟩
 have hne:p.st.length≠0:=by simpa using hne
 cases eM:p.st with
 |nil=>rw[eM]at hne;exact absurd rfl hne
 |cons v vs=>
 cases ids with
 |nil=>rw[eM]at hlen;simp at hlen
 |cons id fM=>
 obtain⟨rb,cap,sp,rfl,h1,h2⟩:=h.ref
 have hl:p.st.length=fM.length+1:=by rw[<-hlen];rfl
 rw[<-eM]
 have hr:room=140737488355328:=rfl
 have hw:aw ((p.st.length:Int) -1)=(fM.length:Int):=by rw[ar (by omega) (by omega)];omega
 rw[hw]
 refine⟨by omega,?_⟩
 show qK _ _ _ (KI _ _ _ (s rb))
 rw[h1,Int.toNat_natCast,Nat.mul_one,Pv h2]
 simp -implicitDefEqProofs only[go_sem,seval]
 exact⟨by have:=(OF h2).1;rwa[List.length_append]at this,hc id fM v vs rfl eM⟩
theorem Ew{s:ae}{B n:Nat}{d:Bool}{r:cO}{Q:List AV->ae->Prop}(hB:s B=some (.cells [.bool d,iO r n]))(hq:Q [.bool (d&&((n:Int).tmod 2==0))] s):FN prog 158 [.ref B 0] s Q:=by
 refine FO sm rfl rfl ?_
 rw[ll]
 conv in dec _=>reduce
 simp -implicitDefEqProofs only[go_sem,seval,hB]
 exact hq
def eh:List aQ->Bool
 |[]=>false
 |v::_=>v.fe&&((v.l_.length:Int).tmod 2==0)
theorem qQ.lv{s0 s:ae}{B:Nat}{p:PS}{rr:cO}{id:Nat×cO}{ids:List (Nat×cO)}{v:aQ}{vs:List aQ}(h:qQ s0 s B p rr (id::ids))(eM:p.st=v::vs):s id.1=some (Sc id.2 v):=by
 refine h.2.2.mem ?_
 rw[eM]
 simp[Bv,lvH]
theorem qA(id:Nat×cO)(ids:List (Nat×cO)):refs (id::ids).reverse=refs ids.reverse++[⟨some id.1⟩]:=by unfold refs;simp
theorem FV{E:St}{d:Option Nat}{K:St->Prop}{s0 s:ae}{B b:Nat}{p:PS}{rr:cO}{ids:List (Nat×cO)}{gz:Bool}(h:qQ s0 s B p rr ids)(cf:p.st.length<=64)(hb:s b=none)(hσ:E.s=s.set b (.cells [.bool gz,.arr 0 0 0 0]))
 (hK:∀s1 rr',s1 B=some (.cells (iY p rr))->(∃fM,qQ s0 (s1.set B (.cells (iY {p with st:=⟨gz,[]⟩::p.st} rr'))) B {p with st:=⟨gz,[]⟩::p.st} rr' fM)->K ({E with s:=s1}.put d (iO rr' (p.st.length+1)))):
 dG 1 8 [.fj] E d K (iO rr p.st.length) (zy E.s 1 (.sl true 1 1 [.ref b 0])):=by
 obtain⟨h1,h2,h3⟩:=h
 have hlen:=qq h1
 have hr:room=140737488355328:=rfl
 have hl:(refs ids.reverse).length=p.st.length:=by rw[qB];simp[hlen]
 have H0:=h3.alloc (o:=.cells [.bool gz,.arr 0 0 0 0]) hb
 have H0':cY s0 (s.set b (.cells [.bool gz,.arr 0 0 0 0])) (oj rr (refs ids.reverse)++([(b,.cells [.bool gz,.arr 0 0 0 0]),(B,.cells (iY p rr))]++Bv ids p.st)):=H0.perm (List.perm_append_comm_assoc [(b,SO.cells [.bool gz,.arr 0 0 0 0]),(B,SO.cells (iY p rr))] _ _)
 obtain⟨s1,e,ok,H1⟩:=H0'.row h2
 rw[oU,<-hl]
 refine Hm (z:=(⟨none⟩:LG)) (v:=(⟨some b⟩:LG)) (hσ.trans e) ok rfl (by rw[hl];omega) fun s' r' hs' ok'=>?_
 rw[hl]
 obtain⟨H2,hf⟩:=(H1.sub hs').YF ok'
 have H3:cY s0 (ji s' r' (refs ids.reverse++[⟨some b⟩])) ((B,.cells (iY p rr))::(oj r' (refs ids.reverse++[⟨some b⟩])++((b,.cells [.bool gz,.arr 0 0 0 0])::Bv ids p.st))):=by
  refine H2.perm ?_
  refine(List.perm_append_comm_assoc _ [(b,SO.cells [.bool gz,.arr 0 0 0 0]),(B,SO.cells (iY p rr))] _).trans ?_
  refine(List.Perm.swap ..).trans ?_
  refine List.Perm.cons _ ?_
  exact List.perm_append_comm_assoc [(b,SO.cells [.bool gz,.arr 0 0 0 0])] _ _
 refine hK _ r' H3.get ⟨(b,none)::ids,⟨rfl,h1⟩,?_,?_⟩
 ·rw[qA];exact hf
 ·rw[qA]
  exact H3.set
theorem Qr{s0 s:ae}{B:Nat}{p:PS}{rr:cO}{ids:List (Nat×cO)}(h:qQ s0 s B p rr ids)(cf:p.st.length<=64){gz:Bool}{Q:List AV->ae->Prop}(he:eh p.st=true->Q [.int .i64 11] s)
 (hd:eh p.st=false->64<=p.st.length->Q [.int .i64 15] s)
 (hk:eh p.st=false->p.st.length<64->∀s' rr' fM,qQ s0 s' B {p with st:=⟨gz,[]⟩::p.st} rr' fM->Q [.int .i64 0] s'):FN prog 118 [.ref B 0,.bool gz] s Q:=by
 have hB:=h.cell
 have hlen:=qq h.1
 have hr:room=140737488355328:=rfl
 have rest:eh p.st=false->∀(Q':Prop),Q'->Q':=fun _ _ x=>x
 refine FO tO rfl rfl ?_
 rw[ma]
 conv in dec _=>reduce
 unfold iY at hB
 simp -implicitDefEqProofs only[go_sem,seval]
 refine I9 h (by omega) (fun eM=>?_) (fun id fM v vs Mi eM=>?_)
 ·simp -implicitDefEqProofs only[go_sem,seval,hB]
  refine⟨[.bool false],rfl,fun h=>(by cases h),?_⟩
  have hw:eh p.st=false:=by rw[eM];rfl
  simp -implicitDefEqProofs only[go_sem,seval,hB,Bool.false_and,Bool.and_false]
  refine⟨fun hx=>he (by first|exact hx|exact absurd hx id),fun hx=>?_⟩
  have hw:eh p.st=false:=by first|exact hw|exact hx
  refine⟨fun hx=>hd hw (by have:=of_decide_eq_true hx;omega),fun hx b hb=>?_⟩
  have hlt:p.st.length<64:=by have:=of_decide_eq_false hx;omega
  refine FV h cf hb rfl fun s1 rr' hB1⟨fM,Rx⟩=>?_
  unfold iY at hB1
  simp -implicitDefEqProofs only[go_sem,seval,hB1]
  exact hk hw hlt _ _ _ Rx
 ·simp -implicitDefEqProofs only[go_sem,seval,hB]
  subst Mi
  have hlv:=h.lv eM
  refine⟨[.bool (eh p.st)],rfl,fun _=>⟨_,rfl,Ew hlv (by rw[eM];exact⟨rfl,rfl⟩)⟩,?_⟩
  simp -implicitDefEqProofs only[go_sem,seval,hB,Bool.true_and,Bool.and_true]
  refine⟨fun hx=>he (by first|exact hx|exact absurd hx id),fun hx=>?_⟩
  have hw:eh p.st=false:=by first|exact hw|exact hx
  refine⟨fun hx=>hd hw (by have:=of_decide_eq_true hx;omega),fun hx b hb=>?_⟩
  have hlt:p.st.length<64:=by have:=of_decide_eq_false hx;omega
  refine FV h cf hb rfl fun s1 rr' hB1⟨fM,Rx⟩=>?_
  unfold iY at hB1
  simp -implicitDefEqProofs only[go_sem,seval,hB1]
  exact hk hw hlt _ _ _ Rx
theorem adG{E:St}{d:Option Nat}{K:St->Prop}{s0:ae}{R:List (Nat×SO)}{r:cO}{l:List aa}(hσ:cY s0 E.s (oj r l++R))(hf:M0 r l)
 (hK:∀s2,cY s0 s2 R->K ({E with s:=s2}.put d (.sl false 4 l.length (flat l)))):vG 4 false E d K (iO r l.length):=by
 cases r with
 |none=>
  obtain rfl:l=[]:=hf
  exact .inl ⟨rfl,rfl,rfl,hK E.s hσ⟩
 |some x=>
  obtain⟨b,cap,sp⟩:=x
  obtain⟨f1,f2,f3,f4⟩:=hf
  have hE':cY s0 E.s ((b,.cells (flat l++sp))::R):=hσ
  refine .inr ⟨f1,f2,fun h=>(by cases h),?_⟩
  have hle:0+l.length*4<=(flat l++sp).length:=by rw[f3,Nat.zero_add];exact Nat.mul_le_mul_right _ f2
  have hc:jf l.length 4 0 (E.s b)=some (l.length,flat l):=by
   rw[hE'.get]
   unfold jf
   simp only[decide_eq_true hle,cond_true]
   have:=nk l sp 4 0 l.length rfl (by omega)
   rw[Nat.zero_mul]at this
   rw[this,List.drop_zero,List.take_length,bd]
  show vG.frzK 4 false E d K b l.length (jf l.length 4 0 (E.s b))
  rw[hc]
  exact hK _ hE'.del.1
theorem qQ.pop{s0 s:ae}{B:Nat}{p:PS}{rr:cO}{id:Nat×cO}{ids:List (Nat×cO)}{v:aQ}{vs:List aQ}(h:qQ s0 s B p rr (id::ids))(eM:p.st=v::vs):
 ∃rr',MZ rr'=MZ rr/\IM rr'=IM rr/\M0 rr' (refs ids.reverse)/\VH ids vs/\M0 id.2 v.l_/\cY s0 s ((B,.cells (iY p rr))::(oj rr' (refs ids.reverse)++(lvH id v++Bv ids vs))):=by
 have hr:=h.ref
 obtain⟨rb,cap,sp,rfl,_,_⟩:=hr
 obtain⟨h1,h2,h3⟩:=h
 rw[eM]at h1 h3
 obtain⟨f1,f2,f3,f4⟩:=h2
 have e:flat (refs (id::ids).reverse)++sp=flat (refs ids.reverse)++(.ref id.1 0::sp):=by rw[qA,ew,List.append_assoc];rfl
 refine⟨some (rb,cap,.ref id.1 0::sp),rfl,rfl,⟨f1,?_,?_,?_⟩,h1.2,h1.1,?_⟩
 ·rw[qB]at f2⊢;simp at f2⊢;omega
 ·rw[<-e];exact f3
 ·unfold views at f4⊢;rw[List.map_cons,f4];rfl
 ·unfold oj at h3⊢
  simp only[]at h3⊢
  rw[<-e]
  exact h3
theorem Oe{s0 s:ae}{X:Nat×SO}{R T:List (Nat×SO)}{id:Nat×cO}{v:aQ}(h:cY s0 s (X::(R++(lvH id v++T)))):cY s0 s (oj id.2 v.l_++(X::(R++T))):=by
 have p1:(X::(R++(lvH id v++T))).Perm ((id.1,Sc id.2 v)::((X::R)++(oj id.2 v.l_++T))):=List.perm_middle (l₁:=X::R)
 have p2:((X::R)++(oj id.2 v.l_++T)).Perm (oj id.2 v.l_++((X::R)++T)):=List.perm_append_comm_assoc ..
 exact(h.perm p1).tail.perm p2
def TZ:List AV:=[.int .i64 0,.int .i64 0,.str [],.sl false 4 0 []]
def ph(st:List aQ)(gz:Bool):Bool:=match st with
 |[]=>true
 |v::_=>(v.fe !=gz)||(gz&&!eh st)
abbrev xY(pf:List aa->Option (List aa×Int)):Prop:=∀(s:ae)(l:List aa)(r:List aa×Int),pf l=some r->FE prog 159 [.sl false 4 l.length (flat l)] s [.sl false 4 r.1.length (flat r.1),.int .i64 r.2] s
@[go_sem]theorem Sj:lD .fj=.no:=rfl
@[go_sem]theorem Qh(o:Nat)(x:IX):gj o x (.iP [])=.no:=rfl
@[go_sem]theorem ag7(E:St)(n:Nat):rd E (.iP []) n=none:=rfl
@[go_sem]theorem af5(op:UnOp):YD op (.iP [])=.no:=by cases op<;>rfl
@[go_sem]theorem abN(ne:Bool)(y:AV):L7 ne (.iP []) y=.no:=rfl
theorem Ze{pf:List aa->Option (List aa×Int)}(hpf:xY pf){s0 s:ae}{B:Nat}{p:PS}{rr:cO}{ids:List (Nat×cO)}(h:qQ s0 s B p rr ids)(cf:p.st.length<=64){gz:Bool}{Q:List AV->ae->Prop}
 (h0:ph p.st gz=true->Q [.agg TZ,.int .i64 11] s)
 (hA:∀v vs,p.st=v::vs->gz=false->ph p.st gz=false->∀s' rr' fM,qQ s0 s' B {p with st:=vs} rr' fM->Q [.agg [.int .i64 6,.int .i64 0,.str [],.sl false 4 v.l_.length (flat v.l_)],.int .i64 0] s')
 (hD:∀v vs,p.st=v::vs->gz=true->ph p.st gz=false->ok (pf v.l_) fun r=>(r.2≠0->∀s',Sub s0 s'->Q [.agg TZ,.int .i64 r.2] s')/\
   (r.2=0->∀s' rr' fM,qQ s0 s' B {p with st:=vs} rr' fM->Q [.agg [.int .i64 7,.int .i64 0,.str [],.sl false 4 r.1.length (flat r.1)],.int .i64 0] s')):FN prog 119 [.ref B 0,.bool gz] s Q:=by
 have hB:=h.cell
 have hlen:=qq h.1
 have hr:room=140737488355328:=rfl
 refine FO xA rfl rfl ?_
 rw[nS]
 conv in dec _=>reduce
 unfold iY at hB
 simp -implicitDefEqProofs only[go_sem,Nat.reduceBEq,Nat.reduceAdd,Nat.reduceMul,Nat.reduceLeDiff,Nat.reduceEqDiff,Nat.reduceBNe,UInt8.reduceToNat,UInt32.reduceToNat]
 refine I9 h (by omega) (fun eM=>?_) (fun id fM v vs Mi eM=>?_)
 ·have U1:ph p.st gz=true:=by rw[eM];rfl
  simp -implicitDefEqProofs only[go_sem,Nat.reduceBEq,Nat.reduceAdd,Nat.reduceMul,Nat.reduceLeDiff,Nat.reduceEqDiff,Nat.reduceBNe,UInt8.reduceToNat,UInt32.reduceToNat,hB,Bool.true_eq_false,false_implies,true_implies,true_and]
  exact h0 U1
 ·subst Mi
  have hlv:=h.lv eM
  unfold Sc at hlv
  have hbd:ph p.st gz=((v.fe !=gz)||(gz&&!eh p.st)):=by rw[eM];rfl
  have htw:eh p.st=(v.fe&&((v.l_.length:Int).tmod 2==0)):=by rw[eM];rfl
  simp -implicitDefEqProofs only[go_sem,Nat.reduceBEq,Nat.reduceAdd,Nat.reduceMul,Nat.reduceLeDiff,Nat.reduceEqDiff,Nat.reduceBNe,UInt8.reduceToNat,UInt32.reduceToNat,hB]
  cases hdv:v.fe<;>cases gz
  all_goals(rw[hdv]at hlv;simp -implicitDefEqProofs only[go_sem,Nat.reduceBEq,Nat.reduceAdd,Nat.reduceMul,Nat.reduceLeDiff,Nat.reduceEqDiff,Nat.reduceBNe,UInt8.reduceToNat,UInt32.reduceToNat,hB,hlv,bL,beq_self_eq_true,Bool.and_self,Bool.not_true,Bool.not_false,Bool.and_false,Bool.false_and,Bool.and_true,Bool.true_and])
  ·have hbf:ph p.st false=false:=by rw[hbd,hdv];rfl
   obtain⟨rr',e1,e2,f1,f2,f3,H⟩:=h.pop eM
   have fL:p.st.length<=IM rr:=by
    obtain⟨rb,cap,sp,rfl,_,_⟩:=h.ref
    have:=h.2.1.2.1
    rw[qB,List.length_reverse,hlen]at this
    exact this
   have hn:p.st.length=vs.length+1:=by rw[eM];rfl
   have hw:aw ((p.st.length:Int) -1)=(vs.length:Int):=by rw[ar (by omega) (by omega)];omega
   rw[hw]
   refine⟨⟨by omega,by omega,by omega⟩,?_⟩
   have H':=H.set (o':=.cells (iY {p with st:=vs} rr'))
   have es:iY {p with st:=vs} rr'=[.sl false 1 p.b.length (flat p.b),.int .i64 p.at_,.bool p.last,.arr (MZ rr) 0 (vs.length:Int).toNat (IM rr)]:=by
    unfold iY iO
    rw[e1,e2];rfl
   rw[es]at H'
   have hl2:=H'.mem (k:=id.1) (o:=Sc id.2 v) (by simp[lvH])
   rw[hl2]
   unfold Sc
   simp -implicitDefEqProofs only[go_sem,Nat.reduceBEq,Nat.reduceAdd,Nat.reduceMul,Nat.reduceLeDiff,Nat.reduceEqDiff,Nat.reduceBNe,UInt8.reduceToNat,UInt32.reduceToNat]
   refine adG (Oe H') f3 fun s2 H2=>?_
   simp -implicitDefEqProofs only[go_sem,Nat.reduceBEq,Nat.reduceAdd,Nat.reduceMul,Nat.reduceLeDiff,Nat.reduceEqDiff,Nat.reduceBNe,UInt8.reduceToNat,UInt32.reduceToNat]
   exact hA v vs eM rfl hbf s2 rr' fM ⟨f2,f1,by rw[es];exact H2⟩
  ·exact h0 (by rw[hbd,hdv];rfl)
  ·exact h0 (by rw[hbd,hdv];rfl)
  ·refine Ew hlv ?_
   simp -implicitDefEqProofs only[go_sem,Nat.reduceBEq,Nat.reduceAdd,Nat.reduceMul,Nat.reduceLeDiff,Nat.reduceEqDiff,Nat.reduceBNe,UInt8.reduceToNat,UInt32.reduceToNat,hB,hlv,bL,beq_self_eq_true,Bool.and_self,Bool.not_true,Bool.not_false,Bool.and_false,Bool.false_and,Bool.and_true,Bool.true_and]
   have ad6:eh p.st=((v.l_.length:Int).tmod 2==0):=by rw[htw,hdv];rfl
   refine⟨fun hx=>h0 (by rw[hbd,hdv,ad6];simpa using hx),fun hx=>?_⟩
   have hbf:ph p.st true=false:=by rw[hbd,hdv,ad6];simpa using hx
   obtain⟨rr',e1,e2,f1,f2,f3,H⟩:=h.pop eM
   refine adG (Oe H) f3 fun s2 H2=>?_
   have hB2:=H2.get
   unfold iY at hB2
   obtain⟨r,hr1,hr2,hr3⟩:=hD v vs eM rfl hbf
   simp -implicitDefEqProofs only[go_sem,Nat.reduceBEq,Nat.reduceAdd,Nat.reduceMul,Nat.reduceLeDiff,Nat.reduceEqDiff,Nat.reduceBNe,UInt8.reduceToNat,UInt32.reduceToNat]
   refine FE.app (hpf s2 v.l_ r hr1) ⟨rfl,?_⟩
   simp -implicitDefEqProofs only[go_sem,Nat.reduceBEq,Nat.reduceAdd,Nat.reduceMul,Nat.reduceLeDiff,Nat.reduceEqDiff,Nat.reduceBNe,UInt8.reduceToNat,UInt32.reduceToNat,hB2]
   have fL:p.st.length<=IM rr:=by
    obtain⟨rb,cap,sp,rfl,_,_⟩:=h.ref
    have:=h.2.1.2.1
    rw[qB,List.length_reverse,hlen]at this
    exact this
   have hn:p.st.length=vs.length+1:=by rw[eM];rfl
   have hw:aw ((p.st.length:Int) -1)=(vs.length:Int):=by rw[ar (by omega) (by omega)];omega
   rw[hw]
   have es:iY {p with st:=vs} rr'=[.sl false 1 p.b.length (flat p.b),.int .i64 p.at_,.bool p.last,.arr (MZ rr) 0 (vs.length:Int).toNat (IM rr)]:=by
    unfold iY iO
    rw[e1,e2];rfl
   refine⟨fun hx=>hr2 (by simpa using hx) s2 H2.1,fun hx=>⟨⟨by omega,by omega,by omega⟩,?_⟩⟩
   have H3:=H2.set (o':=.cells (iY {p with st:=vs} rr'))
   rw[es]at H3
   exact hr3 (by simpa using hx) _ rr' fM ⟨f2,f1,by rw[es];exact H3⟩
set_option maxRecDepth 4000
theorem Ws(b:List UInt8)(a:Int)(last:Bool)(o:AV)(v:aa){r:aa×Int×fu}(h:cP ⟨b,a,last,.fj⟩ v=some r):cP ⟨b,a,last,o⟩ v=some (r.1,r.2.1,⟨b,r.2.2.at_,last,o⟩):=by
 unfold cP at h⊢
 simp only[]at h⊢
 cases h1:du b a last with
 |none=>rw[h1]at h;cases h
 |some r1=>
  rw[h1]at h
  simp only[aP]at h⊢
  cases h2:en (!(r1.2 !=0)) false (iW r1.1)with
  |none=>rw[h2]at h;cases h
  |some r2=>
   rw[h2]at h
   simp only[]at h⊢
   cases h3:((r1.2 !=0)||(!r2))with
   |true=>
    simp only[h3,if_true]at h⊢
    cases h4:fF r1.2 with
    |none=>rw[h4]at h;cases h
    |some r3=>rw[h4]at h;cases h;rfl
   |false=>
    simp only[h3,Bool.false_eq_true,if_false]at h⊢
    cases h4:du b r1.1.To last with
    |none=>rw[h4]at h;cases h
    |some r4=>
     rw[h4]at h
     simp only[]at h⊢
     cases h5:(((r4.2 !=0)||(r4.1.Kind !=6))||(!(r4.1.S.b==(aH.mk [82]).b)))with
     |true=>
      first
      |(simp only[h5,if_true]at h;cases h;done)
      |(simp only[h5,if_true]at h⊢
        cases h6:fF r4.2 with
        |none=>rw[h6]at h;cases h
        |some r5=>rw[h6]at h;cases h;rfl)
     |false=>
      simp only[h5,Bool.false_eq_true,if_false]at h⊢
      cases h6:(((decide (v.N<1))||(decide (v.N>4096)))||(r1.1.V.N !=0))with
      |true=>first|(simp only[h6,if_true]at h;cases h;done)|(simp only[h6,if_true]at h⊢;cases h;rfl)
      |false=>first|(simp only[h6,Bool.false_eq_true,if_false]at h;cases h;done)|(simp only[h6,Bool.false_eq_true,if_false]at h⊢;cases h;rfl)
def zV:aa:=⟨0,0,⟨[]⟩,[]⟩
def vA(v:aa):AV:=.agg [.int .i64 v.Kind,.int .i64 v.N,.str v.S.b,.sl false 4 v.L.length (flat v.L)]
def tA(t:aC):AV:=.agg [.int .i64 t.Kind,.int .i64 t.mY,.int .i64 t.To,.int .i64 t.V.Kind,.int .i64 t.V.N,.str t.V.S.b,.sl false 4 t.V.L.length (flat t.V.L),.str t.S.b]
def oS(p:PS)(t:aC):Option (aa×Int×Int):=
 if eh p.st&&(t.Kind !=1||t.V.Kind !=5)then some (zV,11,p.at_)
 else if t.Kind==6 then aP (od t.S) fun r=>some (r.1,r.2,p.at_)
 else aP (iW t) fun w=>if w then aP (cP ⟨p.b,p.at_,p.last,.fj⟩ t.V) fun r=>some (r.1,r.2.1,r.2.2.at_)else some (t.V,0,p.at_)
theorem qQ.place{s0 s:ae}{B:Nat}{p:PS}{rr:cO}{ids:List (Nat×cO)}(h:qQ s0 s B p rr ids)(a:Int):qQ s0 (s.set B (.cells (iY {p with at_:=a} rr))) B {p with at_:=a} rr ids:=⟨h.1,h.2.1,h.2.2.set⟩
theorem MW{s0 s:ae}{B:Nat}{p:PS}{rr:cO}{ids:List (Nat×cO)}(h:qQ s0 s B p rr ids){v:aa}{r:aa×Int×fu}(hr:cP ⟨p.b,p.at_,p.last,.fj⟩ v=some r){Q:List AV->ae->Prop}
 (hq:∀s',qQ s0 s' B {p with at_:=r.2.2.at_} rr ids->Q [vA r.1,.int .i64 r.2.1] s'):FN prog 161 [.ref B 0,vA v] s Q:=by
 refine xJ (s_0:=⟨p.b,p.at_,p.last,iO rr p.st.length⟩) h.cell ⟨_,Ws _ _ _ (iO rr p.st.length) _ hr,?_⟩
 exact hq _ (h.place _)
theorem P0{s0 s:ae}{B:Nat}{p:PS}{rr:cO}{ids:List (Nat×cO)}(h:qQ s0 s B p rr ids)(cf:p.st.length<=64){t:aC}{Q:List AV->ae->Prop}
 (hm:ok (oS p t) fun r=>∀s',qQ s0 s' B {p with at_:=r.2.2} rr ids->Q [vA r.1,.int .i64 r.2.1] s'):FN prog 120 [.ref B 0,tA t] s Q:=by
 have hB:=h.cell
 have hlen:=qq h.1
 have hr:room=140737488355328:=rfl
 unfold oS at hm
 simp only[Sq,gM,ba]at hm
 obtain⟨m1,m2⟩:=hm
 refine FO sn rfl rfl ?_
 rw[ln]
 conv in dec _=>reduce
 unfold iY at hB
 unfold tA
 simp -implicitDefEqProofs only[go_sem,seval]
 refine I9 h (by omega) (fun eM=>?_) (fun id fM v vs Mi eM=>?_)
 ·have htw:eh p.st=false:=by rw[eM];rfl
  rw[htw]at m1 m2
  simp -implicitDefEqProofs only[go_sem,seval,hB,bL]
  refine⟨fun hk=>?_,fun hk=>?_⟩
  ·obtain⟨r,hr1,hr2⟩:=(m2 rfl).1 hk
   refine FE.app (pA hr1) ?_
   simp -implicitDefEqProofs only[go_sem,seval]
   exact hr2 s h
  ·obtain⟨w,hw1,hw2⟩:=(m2 rfl).2 hk
   refine FE.app (kU hw1) ?_
   simp -implicitDefEqProofs only[go_sem,seval]
   refine⟨fun hw=>?_,fun hw=>?_⟩
   ·obtain⟨r,hr1,hr2⟩:=hw2.1 hw
    refine MW h hr1 fun s' hs'=>?_
    unfold vA
    simp -implicitDefEqProofs only[go_sem,seval]
    exact hr2 s' hs'
   ·exact hw2.2 hw s h
 ·subst Mi
  have hlv:=h.lv eM
  simp -implicitDefEqProofs only[go_sem,seval,hB]
  refine⟨fun _=>Ew hlv ?_,fun hx=>by cases hx⟩
  have htw:(v.fe&&((v.l_.length:Int).tmod 2==0))=eh p.st:=by rw[eM];rfl
  rw[htw]
  cases hw:eh p.st<;>rw[hw]at m1 m2
  all_goals simp -implicitDefEqProofs only[go_sem,seval,hB,bL]
  ·refine⟨fun hk=>?_,fun hk=>?_⟩
   ·obtain⟨r,hr1,hr2⟩:=(m2 rfl).1 hk
    refine FE.app (pA hr1) ?_
    simp -implicitDefEqProofs only[go_sem,seval]
    exact hr2 s h
   ·obtain⟨w,hw1,hw2⟩:=(m2 rfl).2 hk
    refine FE.app (kU hw1) ?_
    simp -implicitDefEqProofs only[go_sem,seval]
    refine⟨fun hw=>?_,fun hw=>?_⟩
    ·obtain⟨r,hr1,hr2⟩:=hw2.1 hw
     refine MW h hr1 fun s' hs'=>?_
     unfold vA
     simp -implicitDefEqProofs only[go_sem,seval]
     exact hr2 s' hs'
    ·exact hw2.2 hw s h
  ·refine⟨fun hx=>m1 hx s h,fun hx=>?_⟩
   refine⟨fun hk=>?_,fun hk=>?_⟩
   ·obtain⟨r,hr1,hr2⟩:=(m2 hx).1 hk
    refine FE.app (pA hr1) ?_
    simp -implicitDefEqProofs only[go_sem,seval]
    exact hr2 s h
   ·obtain⟨w,hw1,hw2⟩:=(m2 hx).2 hk
    refine FE.app (kU hw1) ?_
    simp -implicitDefEqProofs only[go_sem,seval]
    refine⟨fun hw=>?_,fun hw=>?_⟩
    ·obtain⟨r,hr1,hr2⟩:=hw2.1 hw
     refine MW h hr1 fun s' hs'=>?_
     unfold vA
     simp -implicitDefEqProofs only[go_sem,seval]
     exact hr2 s' hs'
    ·exact hw2.2 hw s h
def L6(pf:List aa->Option (List aa×Int))(p:PS)(gz:Bool):Option (aa×Int×PS):=
 bif ph p.st gz then some (zV,11,p)else
 match p.st with
 |[]=>none
 |v::vs=>bif gz then aP (pf v.l_) fun r=>bif r.2 !=0 then some (zV,r.2,p)else some (⟨7,0,⟨[]⟩,r.1⟩,0,{p with st:=vs})
  else some (⟨6,0,⟨[]⟩,v.l_⟩,0,{p with st:=vs})
def nA(p:PS)(gz:Bool):Int×PS:=bif eh p.st then(11,p)else bif decide (64<=p.st.length)then(15,p)else(0,{p with st:=⟨gz,[]⟩::p.st})
def W6(s0:ae)(B:Nat)(e:Int)(p:PS)(K:ae->Prop):Prop:=(e≠0->∀s',Sub s0 s'->K s')/\(e=0->∀s' rr' fM,qQ s0 s' B p rr' fM->K s')
theorem W6.at{s0 s:ae}{B:Nat}{e:Int}{p:PS}{K:ae->Prop}{rr:cO}{ids:List (Nat×cO)}(q:W6 s0 B e p K)(h:qQ s0 s B p rr ids):K s:=by
 by_cases he:e=0
 ·exact q.2 he _ _ _ h
 ·exact q.1 he _ h.2.2.1
theorem W6.mono{s0:ae}{B:Nat}{e:Int}{p:PS}{K K':ae->Prop}(q:W6 s0 B e p K)(h:∀s',K s'->K' s'):W6 s0 B e p K':=⟨fun he s' hs=>h _ (q.1 he s' hs),fun he s' rr' fM hs=>h _ (q.2 he s' rr' fM hs)⟩
theorem XC{pf:List aa->Option (List aa×Int)}(hpf:xY pf){s0 s:ae}{B:Nat}{p:PS}{rr:cO}{ids:List (Nat×cO)}(h:qQ s0 s B p rr ids)(cf:p.st.length<=64){gz:Bool}{Q:List AV->ae->Prop}
 (hm:ok (L6 pf p gz) fun r=>W6 s0 B r.2.1 r.2.2 (Q [vA r.1,.int .i64 r.2.1])):FN prog 119 [.ref B 0,.bool gz] s Q:=by
 unfold L6 at hm
 refine Ze hpf h cf (fun hb=>?_) (fun v vs eM hd hb s' rr' fM hs'=>?_) (fun v vs eM hd hb=>?_)
 ·rw[hb,cond_true,ba]at hm
  exact hm.at h
 ·rw[hb,cond_false,eM]at hm
  subst hd
  simp only[cond_false,ba]at hm
  exact hm.at hs'
 ·rw[hb,cond_false,eM]at hm
  subst hd
  simp only[cond_true,gM]at hm
  obtain⟨r,hr,hm⟩:=hm
  refine⟨r,hr,fun he s' hs'=>?_,fun he s' rr' fM hs'=>?_⟩
  ·rw[show(r.2 !=0)=true by simpa using he,cond_true,ba]at hm
   exact hm.1 he s' hs'
  ·rw[show(r.2 !=0)=false by simpa using he,cond_false,ba]at hm
   exact hm.2 rfl s' rr' fM hs'
theorem Nm{s0 s:ae}{B:Nat}{p:PS}{rr:cO}{ids:List (Nat×cO)}(h:qQ s0 s B p rr ids)(cf:p.st.length<=64){gz:Bool}{Q:List AV->ae->Prop}
 (hm:W6 s0 B (nA p gz).1 (nA p gz).2 (Q [.int .i64 (nA p gz).1])):FN prog 118 [.ref B 0,.bool gz] s Q:=by
 unfold nA at hm
 refine Qr h cf (fun hw=>?_) (fun hw hl=>?_) (fun hw hl s' rr' fM hs'=>?_)
 ·rw[hw,cond_true]at hm
  exact hm.at h
 ·rw[hw,cond_false,decide_eq_true hl,cond_true]at hm
  exact hm.at h
 ·rw[hw,cond_false,decide_eq_false (by omega),cond_false]at hm
  exact hm.at hs'
def wL(pf:List aa->Option (List aa×Int))(p:PS)(t:aC):Option (aa×Bool×Int×PS):=
 bif t.Kind==0 then some (zV,false,10,p)
 else bif t.Kind==2||t.Kind==4 then some (zV,false,(nA p (t.Kind==4)).1,(nA p (t.Kind==4)).2)
 else bif t.Kind==3||t.Kind==5 then aP (L6 pf p (t.Kind==5)) fun r=>some (r.1,r.2.1==0,r.2.1,r.2.2)
 else aP (oS p t) fun r=>bif r.2.1==0&&decide (64<=p.st.length)then some (r.1,false,15,{p with at_:=r.2.2})else some (r.1,r.2.1==0,r.2.1,{p with at_:=r.2.2})
theorem Wz{pf:List aa->Option (List aa×Int)}(hpf:xY pf){s0 s:ae}{B:Nat}{p:PS}{rr:cO}{ids:List (Nat×cO)}(h:qQ s0 s B p rr ids)(cf:p.st.length<=64){t:aC}{Q:List AV->ae->Prop}
 (hm:ok (wL pf p t) fun r=>W6 s0 B r.2.2.1 r.2.2.2 (Q [vA r.1,.bool r.2.1,.int .i64 r.2.2.1])):FN prog 76 [.ref B 0,tA t] s Q:=by
 have hr:room=140737488355328:=rfl
 unfold wL at hm
 refine FO vT rfl rfl ?_
 rw[mV]
 conv in dec _=>reduce
 unfold tA
 cases h0:(t.Kind==0)with
 |true=>
  rw[h0,cond_true,ba]at hm
  simp -implicitDefEqProofs only[go_sem,seval,h0,bL]
  exact hm.at h
 |false=>
 rw[h0,cond_false]at hm
 cases h2:(t.Kind==2)with
 |true=>
  have h4:(t.Kind==4)=false:=by have:=eq_of_beq h2;rw[this];rfl
  rw[h2,h4,Bool.true_or,cond_true,ba]at hm
  simp -implicitDefEqProofs only[go_sem,seval,h0,h2,h4,bL,Bool.true_or,Bool.or_true,Bool.or_false]
  refine Nm h cf (hm.mono fun s' hq=>?_)
  simp -implicitDefEqProofs only[go_sem,seval]
  repeat'(first|((with_reducible refine OU ?_ ?_);exact rfl)|((with_reducible refine aeK ?_ ?_);exact rfl)|simp -implicitDefEqProofs only[go_sem,seval])
  exact hq
 |false=>
 cases h4:(t.Kind==4)with
 |true=>
  rw[h2,h4,Bool.or_true,cond_true,ba]at hm
  simp -implicitDefEqProofs only[go_sem,seval,h0,h2,h4,bL,Bool.true_or,Bool.or_true,Bool.or_false]
  refine Nm h cf (hm.mono fun s' hq=>?_)
  simp -implicitDefEqProofs only[go_sem,seval]
  repeat'(first|((with_reducible refine OU ?_ ?_);exact rfl)|((with_reducible refine aeK ?_ ?_);exact rfl)|simp -implicitDefEqProofs only[go_sem,seval])
  exact hq
 |false=>
 rw[h2,h4,Bool.or_false,cond_false]at hm
 cases h3:(t.Kind==3)with
 |true=>
  have h5:(t.Kind==5)=false:=by have:=eq_of_beq h3;rw[this];rfl
  rw[h3,h5,Bool.true_or,cond_true,gM]at hm
  obtain⟨r,hr1,hm⟩:=hm
  rw[ba]at hm
  simp -implicitDefEqProofs only[go_sem,seval,h0,h2,h4,h3,h5,bL,Bool.true_or,Bool.or_true,Bool.or_false]
  refine XC hpf h cf ⟨r,hr1,hm.mono fun s' hq=>?_⟩
  unfold vA
  simp -implicitDefEqProofs only[go_sem,seval]
  exact hq
 |false=>
 cases h5:(t.Kind==5)with
 |true=>
  rw[h3,h5,Bool.or_true,cond_true,gM]at hm
  obtain⟨r,hr1,hm⟩:=hm
  rw[ba]at hm
  simp -implicitDefEqProofs only[go_sem,seval,h0,h2,h4,h3,h5,bL,Bool.true_or,Bool.or_true,Bool.or_false]
  refine XC hpf h cf ⟨r,hr1,hm.mono fun s' hq=>?_⟩
  unfold vA
  simp -implicitDefEqProofs only[go_sem,seval]
  exact hq
 |false=>
 rw[h3,h5,Bool.or_false,cond_false,gM]at hm
 obtain⟨r,hr1,hm⟩:=hm
 simp -implicitDefEqProofs only[go_sem,seval,h0,h2,h4,h3,h5,bL,Bool.true_or,Bool.or_true,Bool.or_false]
 refine P0 h cf ⟨r,hr1,fun s' hs'=>?_⟩
 have hB:=hs'.cell
 unfold iY at hB
 unfold vA
 simp -implicitDefEqProofs only[go_sem,seval,hB]
 cases he:(r.2.1==0)with
 |false=>
  rw[he,Bool.false_and,cond_false,ba]at hm
  simp -implicitDefEqProofs only[go_sem,seval,hB,he,bL,Bool.true_or,Bool.or_true,Bool.or_false]
  exact hm.at hs'
 |true=>
  rw[he,Bool.true_and]at hm
  simp -implicitDefEqProofs only[go_sem,seval,hB,he,bL,Bool.true_or,Bool.or_true,Bool.or_false]
  refine⟨fun hl=>?_,fun hl=>?_⟩
  ·rw[show decide (64<=p.st.length)=true by have:=of_decide_eq_true hl;exact decide_eq_true (by omega),cond_true,ba]at hm
   exact hm.at hs'
  ·rw[show decide (64<=p.st.length)=false by have:=of_decide_eq_false hl;exact decide_eq_false (by omega),cond_false,ba]at hm
   exact hm.at hs'
end Go.AB
end
section
set_option maxRecDepth 16000
namespace Go.AB
open Go
open Go.Proofs.Tryz (prog)
attribute[-go_sem] Nat.add_zero pj cT ck cN bK cj
def tu:IC:=dec 0xaa2c6efaefc36da5817341a81b8b49641eaa79560a6fa27783151153a075e6fea9d4c4333e49ac64e71debe54ee9650b7c4188b680c565c16d0868cead291a8ec740fa54645f0c297e2fe2262f386102bece1fedb43de13d89480ea2a0dc00c08d5128bc4954219c249111d9b834b2daaa43658b39f701fe350d920e34ac719ab7f58e5de39e662f48bd156b106e5045ed48fecc05ae47f0d970f0d4e6cf88321ce638e8864ae610d85da590a9b5223282ae63c717c97816719821151f0b2757edf59b38ac25f6ecec6a2826d723c483974de3d6e9bb08368b8d5f0e966e67f559729b93e4b69b85b51a0ac860ba76de262498c6f12874c36a630daad56ba5dc4ef5107cf4f5ad3871354cacbb19e0e1b0ca1b8d514a2dfcdd7de32716960acc69ecb81c8944f8216faf05710df9720c4cd57f9e9678915d33529bb01e43a0e28fb574b002d9003cd1eb37e0092ef5c
theorem Dh:aS prog 34 62 [⟨6,false,some (4,true)⟩,⟨7,true,none⟩,⟨8,true,none⟩] tu=true:=by kernel_rfl
theorem RW{P:Program}{S O:Type}{body:S->Option (S⊕O)}{s0:S}{kf:O->Prop}{live:List (Nat×Bool)}{l:Nat}{r:IC}{Q:Exit->St->Prop}{E:St}(R:S->St->Prop)
 (h0:R s0 E)
 (hb:∀(J:St->Prop)(s:S)(τ:St),R s τ->ok (body s) (jS (fun t=>∀U',R t U'->J U') kf)->fK P r (Ib l live J Q) τ):ok (iter body s0) kf->T8 P l live r Q E:=by
 intro h
 have HP:∀τ,(∃m s,R s τ/\ok (bV body m s) kf)->∃m,(∃s,R s τ/\ok (bV body m s) kf)/\∀k,k<m->¬∃s,R s τ/\ok (bV body k s) kf:=by
  rintro τ ⟨m,s,h⟩
  induction m using Nat.strongRecOn generalizing s with
  |_ m ih=>
   by_cases hk:∃k,k<m/\∃s,R s τ/\ok (bV body k s) kf
   ·obtain⟨k,hk,s',h'⟩:=hk
    exact ih k hk s' h'
   ·exact⟨m,⟨s,h⟩,fun k hk' hs=>hk ⟨k,hk',hs⟩⟩
 have hμ:∃μ:St->Nat,∀τ,(∃m s,R s τ/\ok (bV body m s) kf)->(∃s,R s τ/\ok (bV body (μ τ) s) kf)/\∀k,k<μ τ->¬∃s,R s τ/\ok (bV body k s) kf:=⟨fun τ=>Classical.epsilon fun m=>(∃s,R s τ/\ok (bV body m s) kf)/\∀k,k<m->¬∃s,R s τ/\ok (bV body k s) kf,fun τ hτ=>Classical.epsilon_spec (HP τ hτ)⟩
 obtain⟨μ,hμ⟩:=hμ
 refine⟨fun τ=>∃m s,R s τ/\ok (bV body m s) kf,μ,⟨_,s0,h0,h⟩,?_⟩
 intro τ hτ
 obtain⟨⟨s,e,hs⟩,_⟩:=hμ τ hτ
 generalize hm:μ τ=m at hs
 cases m with
 |zero=>exact(rm hs).elim
 |succ m=>
  obtain⟨x,hx,k⟩:=rl hs
  refine hb _ s τ e ⟨x,hx,?_⟩
  cases x with
  |inr o=>exact k
  |inl t=>
   intro U' ht
   refine⟨⟨m,t,ht,k⟩,?_⟩
   have h2:=(hμ U' ⟨m,t,ht,k⟩).2
   rcases Nat.lt_or_ge m (μ U')with hlt|hge
   ·exact(h2 m hlt ⟨t,ht,k⟩).elim
   ·omega
theorem VO{s0 s:ae}{B:Nat}{p:PS}{rr:cO}{ids:List (Nat×cO)}(h:qQ s0 s B p rr ids){r:aC×Int}(hr:du p.b p.at_ p.last=some r){Q:List AV->ae->Prop}
 (h0:(r.2 !=0)=false->∀s',qQ s0 s' B {p with at_:=r.1.To} rr ids->Q [tA r.1,.int .i64 r.2] s')(h1:(r.2 !=0)=true->qQ s0 s B p rr ids->Q [tA r.1,.int .i64 r.2] s):FN prog 75 [.ref B 0] s Q:=by
 refine wb (s_0:=⟨p.b,p.at_,p.last,iO rr p.st.length⟩) h.cell ?_
 unfold lH
 rw[gM]
 refine⟨r,hr,?_⟩
 cases he:(r.2==0)with
 |true=>
  simp only[he,if_true]
  exact⟨_,rfl,h0 (by unfold bne;rw[he];rfl) _ (h.place _)⟩
 |false=>
  simp only[he,Bool.false_eq_true,if_false]
  refine⟨_,rfl,?_⟩
  have:s.set B (.cells (iY p rr))=s:=aY h.cell
  show Q _ (s.set B (.cells (iY p rr)))
  rw[this]
  exact h1 (by unfold bne;rw[he];rfl) h
theorem YI{P:Program}{fO:List (List Bool)}{ops f:List au}{live:List Nat}{Q:Exit->St->Prop}{d:List Bool}{E:St}(C:St->Prop)
 (h1:∀K:St->Prop,(∀τ:St,C (τ.vU live)->K τ)->ON P fO ops K f d E)(h2:∀φ,C φ->Q .normal φ):ON P fO ops (uk live Q) f d E:=h1 _ fun τ h=>h2 _ h
theorem WO{E:St}{d:Option Nat}{K:St->Prop}{s s2:ae}{B:Nat}{p2:PS}{rr2:cO}{id:Nat×cO}{fM:List (Nat×cO)}{v:aQ}{vs:List aQ}(hσ:E.s=s2)(h2:qQ s s2 B p2 rr2 (id::fM))(eM:p2.st=v::vs)(cf:(v.l_.length+1)*56<=room)(x:aa)
 (hK:∀S3 rb cap sp,S3 rb=some (.cells (flat (v.l_++[zV])++sp))->S3 id.1=some (.cells [.bool v.fe,iO id.2 v.l_.length])->rb≠id.1->
   qQ s ((S3.set rb (.cells (flat (v.l_++[x])++sp))).set id.1 (.cells [.bool v.fe,.arr rb 0 (v.l_.length+1) cap])) B {p2 with st:=⟨v.fe,v.l_++[x]⟩::vs} rr2 ((id.1,some (rb,cap,sp))::fM)->
   K ({E with s:=S3}.put d (.arr rb 0 (v.l_.length+1) cap))):
 dG 4 56 [.int .i64 0,.int .i64 0,.str [],.sl false 4 0 []] E d K (.arr (MZ id.2) 0 v.l_.length (IM id.2)) (zy E.s 4 (.sl true 4 1 [.int .i64 0,.int .i64 0,.str [],.sl false 4 0 []])):=by
 obtain⟨F1,F2,H⟩:=h2
 rw[eM]at F1 H
 have H1:cY s s2 (oj id.2 v.l_++((id.1,Sc id.2 v)::((B,.cells (iY p2 rr2))::(oj rr2 (refs (id::fM).reverse)++Bv fM vs)))):=by
  refine H.perm ?_
  refine(List.perm_middle (l₁:=(B,SO.cells (iY p2 rr2))::oj rr2 (refs (id::fM).reverse))).trans ?_
  refine((List.perm_append_comm_assoc ((B,SO.cells (iY p2 rr2))::oj rr2 (refs (id::fM).reverse)) (oj id.2 v.l_) (Bv fM vs)).cons _).trans ?_
  exact List.perm_middle.symm
 obtain⟨sb,e,okr,Hb⟩:=H1.row F1.1
 rw[oU]
 refine Hm (z:=zV) (v:=zV) (hσ.trans e) okr rfl cf fun s' r' hs' ok'=>?_
 obtain⟨rb,cap,sp,rfl⟩:=Th ok' (by simp)
 obtain⟨H3,f3⟩:=(Hb.sub hs').YF ok'
 have hne:rb≠id.1:=by
  have:=H3.2.2
  intro he
  rw[he]at this
  simp[oj]at this
 refine hK _ rb cap sp H3.get (H3.mem (by simp[oj,Sc])) hne ?_
 have H4:=(cY.set (o':=.cells (flat (v.l_++[x])++sp)) H3)
 have H5:=(cY.set (o':=.cells [.bool v.fe,.arr rb 0 (v.l_.length+1) cap]) (H4.perm (List.Perm.swap ..)))
 have H6:=H5.perm (List.perm_append_comm_assoc [(id.1,SO.cells [.bool v.fe,.arr rb 0 (v.l_.length+1) cap]),(rb,.cells (flat (v.l_++[x])++sp))] ((B,SO.cells (iY p2 rr2))::oj rr2 (refs (id::fM).reverse)) (Bv fM vs))
 have hlen:(v.l_++[x]).length=v.l_.length+1:=by simp
 have hl:Sc (some (rb,cap,sp)) ⟨v.fe,v.l_++[x]⟩=.cells [.bool v.fe,.arr rb 0 (v.l_.length+1) cap]:=by
  unfold Sc iO
  simp only[hlen]
  rfl
 have hp:iY {p2 with st:=⟨v.fe,v.l_++[x]⟩::vs} rr2=iY p2 rr2:=by
  unfold iY
  simp only[eM,List.length_cons]
 have hrefs:refs ((id.1,(some (rb,cap,sp):cO))::fM).reverse=refs (id::fM).reverse:=by rw[qA,qA]
 refine⟨⟨?_,F1.2⟩,by rw[hrefs];exact F2,?_⟩
 ·obtain⟨g1,g2,g3,g4⟩:=f3
  refine⟨g1,by simpa using g2,?_,g4⟩
  rw[List.length_append,aR]at g3⊢
  simpa using g3
 ·rw[hp,hrefs]
  have:Bv ((id.1,some (rb,cap,sp))::fM) (⟨v.fe,v.l_++[x]⟩::vs)=[(id.1,SO.cells [.bool v.fe,.arr rb 0 (v.l_.length+1) cap]),(rb,.cells (flat (v.l_++[x])++sp))]++Bv fM vs:=by rw[<-hl];rfl
  show cY s _ ((B,SO.cells (iY p2 rr2))::(oj rr2 _++Bv ((id.1,some (rb,cap,sp))::fM) (⟨v.fe,v.l_++[x]⟩::vs)))
  rw[this]
  exact H6
theorem TR{E:St}{d:Option Nat}{K:St->Prop}{s s2:ae}{B:Nat}{p2:PS}{rr2:cO}{id:Nat×cO}{fM:List (Nat×cO)}{v:aQ}{vs:List aQ}(hσ:E.s=s2)(h2:qQ s s2 B p2 rr2 (id::fM))(eM:p2.st=v::vs)(cf:(v.l_.length+1)*56<=room)(x:aa)
 (hK:∀S3 rb cap cs,S3 rb=some (.cells cs)->S3 id.1=some (.cells [.bool v.fe,iO id.2 v.l_.length])->(∀o,(S3.set rb o) id.1=some (.cells [.bool v.fe,iO id.2 v.l_.length]))->(∀o,(S3.set id.1 o) rb=some (.cells cs))->
   v.l_.length*4+4<=cs.length->
   (∃rr3 HR,qQ s ((S3.set rb (.cells (setAt cs (v.l_.length*4) [.int .i64 x.Kind,.int .i64 x.N,.str x.S.b,.sl false 4 x.L.length (flat x.L)]))).set id.1 (.cells [.bool v.fe,.arr rb 0 (v.l_.length+1) cap])) B {p2 with st:=⟨v.fe,v.l_++[x]⟩::vs} rr3 HR)->
   (∃rr3 HR,qQ s ((S3.set id.1 (.cells [.bool v.fe,.arr rb 0 (v.l_.length+1) cap])).set rb (.cells (setAt cs (v.l_.length*4) [.int .i64 x.Kind,.int .i64 x.N,.str x.S.b,.sl false 4 x.L.length (flat x.L)]))) B {p2 with st:=⟨v.fe,v.l_++[x]⟩::vs} rr3 HR)->
   K ({E with s:=S3}.put d (.arr rb 0 (v.l_.length+1) cap))):
 dG 4 56 [.int .i64 0,.int .i64 0,.str [],.sl false 4 0 []] E d K (.arr (MZ id.2) 0 v.l_.length (IM id.2)) (zy E.s 4 (.sl true 4 1 [.int .i64 0,.int .i64 0,.str [],.sl false 4 0 []])):=by
 refine WO hσ h2 eM cf x fun S3 rb cap sp g1 g2 hne pk=>?_
 have hs:setAt (flat (v.l_++[zV])++sp) (v.l_.length*4) [.int .i64 x.Kind,.int .i64 x.N,.str x.S.b,.sl false 4 x.L.length (flat x.L)]=flat (v.l_++[x])++sp:=by
  have h:=ve (v.l_++[zV]) [x] sp 4 v.l_.length rfl (by simp)
  have hx:flat [x]=[.int .i64 x.Kind,.int .i64 x.N,.str x.S.b,.sl false 4 x.L.length (flat x.L)]:=by
   unfold flat
   simp only[List.map_cons,List.map_nil,List.flatten_cons,List.flatten_nil,List.append_nil]
   exact mE x
  rw[hx]at h
  rw[h]
  simp
 refine hK S3 rb cap _ g1 g2 (fun o=>?_) (fun o=>?_) ?_ ?_ ?_
 ·rw[<-g2];unfold ae.set;rw[if_neg (Ne.symm hne)]
 ·rw[<-g1];unfold ae.set;rw[if_neg hne]
 ·rw[List.length_append,aR]
  have:bp.w aa=4:=rfl
  rw[this]
  simp
  omega
 ·rw[hs];exact⟨_,_,pk⟩
 ·rw[hs,set_comm hne];exact⟨_,_,pk⟩
def qG(pf:List aa->Option (List aa×Int))(p:PS):Option (PS⊕(aa×Int×Int)):=
 aL (p.st.length<=64)<|
 aP (du p.b p.at_ p.last) fun r1=>
 bif r1.2 !=0 then some (.inr (zV,0,r1.2))else
 aP (wL pf {p with at_:=r1.1.To} r1.1) fun r=>
 bif r.2.2.1 !=0 then some (.inr (zV,0,r.2.2.1))else
 bif !r.2.1 then some (.inl r.2.2.2)else
 aL (r.2.2.2.st.length<=64)<|match r.2.2.2.st with
 |[]=>some (.inr (r.1,r.2.2.2.at_,0))
 |v::vs=>aL ((v.l_.length+1)*56<=room)<|some (.inl {r.2.2.2 with st:=⟨v.fe,v.l_++[r.1]⟩::vs})
def rA(pf:List aa->Option (List aa×Int))(b:List UInt8)(a:Int)(last:Bool):Option (aa×Int×Int):=iter (qG pf) ⟨b,a,last,[]⟩
def zL:AV:=.loc [.int .i64 0,.int .i64 0,.str [],.sl true 4 0 []]
set_option maxHeartbeats 8000000 in
theorem TS{pf:List aa->Option (List aa×Int)}(hpf:xY pf){s:ae}{b:List UInt8}{a:Int}{last:Bool}{Q:List AV->ae->Prop}
 (hm:ok (rA pf b a last) fun r=>∀s',Sub s s'->Q [vA r.1,.int .i64 r.2.1,.int .i64 r.2.2] s'):FN prog 34 [.sl false 1 b.length (flat b),.int .i64 a,.bool last] s Q:=by
 have hr:room=140737488355328:=rfl
 unfold rA at hm
 refine FO Dh rfl rfl ?_
 rw[tu]
 conv in dec _=>reduce
 simp -implicitDefEqProofs only[go_sem,seval]
 intro B hB
 refine RW (fun(p:PS)(τ:St)=>∃s' rr ids,qQ s s' B p rr ids/\τ=⟨[(6,zL),(9,.ref B 0)],[],s'⟩) ?_ ?_ hm
 ·refine⟨_,none,[],⟨trivial,rfl,(cY.nil.alloc hB)⟩,rfl⟩
 ·rintro J p τ ⟨s',rr,ids,h,rfl⟩ hb
  unfold qG at hb
  rw[eW]at hb
  obtain⟨cf,hb⟩:=hb
  unfold zL
  simp -implicitDefEqProofs only[go_sem,seval]
  rw[gM]at hb
  obtain⟨r1,hr1,hb⟩:=hb
  refine VO h hr1 (fun he s1 h1=>?_) (fun he h1=>?_)
  rotate_left
  ·rw[he,cond_true,ba]at hb
   unfold tA
   simp -implicitDefEqProofs only[go_sem,seval,he,bL]
   exact hb s' h.2.2.1
  ·rw[he,cond_false,gM]at hb
   obtain⟨r,hr2,hb⟩:=hb
   unfold tA
   simp -implicitDefEqProofs only[go_sem,seval,he,bL]
   refine Wz hpf h1 cf ⟨r,hr2,fun he2 s2 h2=>?_,fun he2 s2 rr2 aik h2=>?_⟩
   ·have he3:(r.2.2.1 !=0)=true:=by simpa using he2
    rw[he3,cond_true,ba]at hb
    unfold vA
    simp -implicitDefEqProofs only[go_sem,seval,he3,bL]
    exact hb s2 h2
   ·have he3:(r.2.2.1 !=0)=false:=by simpa using he2
    rw[he3,cond_false]at hb
    unfold vA
    cases hi:r.2.1 with
    |false=>
     rw[hi,Bool.not_false,cond_true,ba]at hb
     simp -implicitDefEqProofs only[go_sem,seval,he3,hi,Bool.not_false,bL]
     exact hb _ ⟨s2,rr2,aik,h2,rfl⟩
    |true=>
     rw[hi,Bool.not_true,cond_false]at hb
     simp -implicitDefEqProofs only[go_sem,seval,he3,hi,Bool.not_true,bL]
     rw[eW]at hb
     obtain⟨aic,hb⟩:=hb
     have hB2:=h2.cell
     unfold iY at hB2
     refine I9 h2 (by omega) (fun eM=>?_) (fun id fM v vs Mi eM=>?_)
     ·rw[eM]at hb
      simp only[ba]at hb
      simp -implicitDefEqProofs only[go_sem,seval,hB2,bL]
      exact hb s2 h2.2.2.1
     ·rw[eM]at hb
      simp only[eW,ba]at hb
      obtain⟨ZB,hb⟩:=hb
      simp -implicitDefEqProofs only[go_sem,seval,hB2,bL]
      subst Mi
      have hlv:=h2.lv eM
      unfold Sc at hlv
      have C1:∀φ:St,(∃s3 rr3 HR,qQ s s3 B {r.2.2.2 with st:=⟨v.fe,v.l_++[r.1]⟩::vs} rr3 HR/\φ=⟨[(6,zL),(9,.ref B 0)],[],s3⟩)->J φ:=fun φ hφ=>hb φ hφ
      refine YI (fun φ=>∃s3 rr3 HR,qQ s s3 B {r.2.2.2 with st:=⟨v.fe,v.l_++[r.1]⟩::vs} rr3 HR/\φ=⟨[(6,zL),(9,.ref B 0)],[],s3⟩) ?_ ?_
      rotate_left
      ·rintro φ ⟨s3,rr3,HR,h3,rfl⟩
       unfold zL
       simp -implicitDefEqProofs only[go_sem,seval]
       exact C1 _ ⟨s3,rr3,HR,h3,rfl⟩
      ·intro K hK
       clear C1 hb
       repeat'(first|(simp only[cN,ck,bK,cj,we,xR,Bool.not_true,Bool.not_false,Bool.or_true,Bool.true_or,Bool.false_or,Bool.or_false,Bool.and_true,Bool.true_and,Bool.and_false,Bool.false_and,cond_true,cond_false,true_and,and_true];done)|with_reducible refine⟨?_,?_⟩|with_reducible exact trivial|(simp only[cN,ck,bK,cj,we,xR,Bool.not_true,Bool.not_false,Bool.or_true,Bool.true_or,Bool.false_or,Bool.or_false,Bool.and_true,Bool.true_and,Bool.and_false,Bool.false_and,cond_true,cond_false,true_and,and_true])|simp -implicitDefEqProofs only[go_sem,seval,hlv])
       all_goals
        refine TR rfl h2 eM ZB r.1 (fun S3 rb cap cs g1 g2 q1 q2 hle f1 f2=>?_)
        obtain⟨ra,ia,f1⟩:=f1
        obtain⟨rz,iz,f2⟩:=f2
        repeat'(first|exact hK _ ⟨_,_,_,f1,rfl⟩|exact hK _ ⟨_,_,_,f2,rfl⟩|omega|(simp only[cN,ck,bK,cj,we,xR,Bool.not_true,Bool.not_false,Bool.or_true,Bool.true_or,Bool.false_or,Bool.or_false,Bool.and_true,Bool.true_and,Bool.and_false,Bool.false_and,cond_true,cond_false,true_and,and_true];done)|with_reducible refine⟨?_,?_⟩|with_reducible exact trivial|(simp only[cN,ck,bK,cj,we,xR,Bool.not_true,Bool.not_false,Bool.or_true,Bool.true_or,Bool.false_or,Bool.or_false,Bool.and_true,Bool.true_and,Bool.and_false,Bool.false_and,cond_true,cond_false,true_and,and_true])|simp -implicitDefEqProofs only[go_sem,seval,g1,g2,q1,q2])
def Gl:IC:=dec 0x149998c2ffec91db4cd74a34b9902c48a9c0a56c7cd23b460c898342c022b5b4473a
theorem Pm:aS prog 156 8 [⟨2,true,none⟩] Gl=true:=by kernel_rfl
def Hw(l:List UInt8)(s:ae)(rs:List AV)(s':ae):Prop:=(∃b cap sp,rs=[.arr b 0 l.length cap]/\s b=none/\0<cap/\l.length<=cap/\(flat l++sp).length=cap*1/\views (flat l++sp)=flat l++sp/\s'=s.set b (.cells (flat l++sp)))\/(l=[]/\s'=s/\∃b,rs=[.arr b 0 0 0])
theorem LU{o:Bool}{l:List UInt8}{s:ae}(hr:l.length*1<=room):FN prog 156 [.sl o 1 l.length (flat l)] s (Hw l s):=by
 refine FN.Lt (FO Pm rfl rfl ?_)
 generalize hQ:(fun rs s'=>∃s2,Sub s2 s'/\Hw l s rs s2)=Q
 have hq:∀rs s' s2,Sub s2 s'->Hw l s rs s2->Q rs s':=fun rs s' s2 h1 h2=>by rw[<-hQ];exact⟨s2,h1,h2⟩
 rw[Gl]
 conv in dec _=>reduce
 simp -implicitDefEqProofs only[go_sem,seval]
 intro v hv
 refine⟨fun h=>hq _ _ s (Sub.refl s) (.inr ⟨List.eq_nil_of_length_eq_zero (hv (by simpa using h)),rfl,0,rfl⟩),fun _ b1 hb1=>?_⟩
 rw[oU,bd]
 by_cases hl:l=[]
 ·subst hl
  refine pa rfl rfl (Nat.le_refl 0) ?_
  simp -implicitDefEqProofs only[go_sem,seval]
  exact hq _ _ s ((Sub.refl s).set hb1) (.inr ⟨rfl,rfl,_,rfl⟩)
 ·have hn:0<l.length:=List.length_pos_iff.2 hl
  refine fm rfl rfl (by omega) (by rw[Nat.zero_add];exact hr) fun b2 cap hb2 fL=>?_
  rw[Nat.zero_add]at fL
  have hz:(List.replicate (cap -(0+l.length)) [.int .u8 0]).flatten=flat (List.replicate (cap -l.length) (0:UInt8)):=by rw[iw,Nat.zero_add];rfl
  rw[hz]
  simp -implicitDefEqProofs only[go_sem,seval,Nat.zero_add,List.nil_append]
  have Rm:s b2=none:=((Sub.refl s).set hb1).none hb2
  refine hq _ _ _ (Sub.IV ((Sub.refl s).set hb1)) (.inl ⟨b2,cap,_,rfl,Rm,by omega,fL,?_,?_,rfl⟩)
  ·rw[List.length_append,aR,aR,List.length_replicate]
   show l.length*1+(cap -l.length)*1=cap*1
   omega
  ·rw[nr,bd,bd]
theorem O3{o:Bool}{l:List UInt8}{s:ae}(hr:l.length*1<=room):FE prog 156 [.sl o 1 l.length (flat l)] s [.sl true 1 l.length (flat l)] s:=
 FN.IP (aR l) (bd l) ⟨rfl,rfl⟩ ((LU hr).mono fun rs s' h=>by
  rcases h with⟨b,cap,sp,h1,h2,h3,h4,h5,h6,h7⟩|⟨h1,h2,h3⟩
  ·exact .inl ⟨b,cap,sp,h1,by rw[h7];exact ch,h3,h4,h5,by rw[h7,qW h2];exact Sub.refl s⟩
  ·subst h1;exact .inr ⟨rfl,rfl,by rw[h2];exact Sub.refl s,h3⟩)
def Kh:IC:=dec 0x85975d12c63fea476ed30ce8244b74a91518cd0d5d52b95b903477e1703fd504883fa
theorem RN:aS prog 129 11 [⟨4,true,none⟩] Kh=true:=by kernel_rfl
def Gt:IC:=dec 0x628da4f49e3702f8b5ec59c04b92691a8745e139b27e640eab73c60af4dc5c6f735b791aa0202fa5709bd0378b6a84f9e2bf6b1800e152980c65504883fa
theorem Pt:aS prog 174 21 [⟨4,true,none⟩] Gt=true:=by kernel_rfl
def Gr:IC:=dec 0x3d47c4dc3f572611cb063bbbc6ffe2415c5c57bff2a3c8fda7000857be608ab7f88d8ae89a32f444c83d73c715596f4b8f50ac1c5f34bd74293c5042fc81362e7542ddcae470d789541ad8e2343b1cc6cfc4783061586fa8c8e8c2a2c19c3804c8c315bd8fd5d10fb6b4942e267fe9c57270872117511526f8ce409aa88b119c412c9e6e137d0bc625b2f660be688bf829595bd26f297c1135417b525a734bf559574f909f214d4e129c15d5ca739da87bd0b3415d0d773d44e11cd8bd287cfb92c208445c1ac45525d72821661822652329b056fc7712a1525840ddc91ac74e830e1f1948eca60de3b28a4575f877f20a203916610b775b40acb
theorem Pr:aS prog 172 44 [⟨0,true,none⟩,⟨1,true,none⟩] Gr=true:=by kernel_rfl
theorem Wr{b:List UInt8}{high o:Bool}{s:ae}{Q:List AV->ae->Prop}(hr:b.length*1<=room)(hq:∀B,s B=none->Q [.ref B 0] (s.set B (.cells [.int .i64 0,.bool high,.bool true,.sl false 1 b.length (flat b)]))):FN prog 129 [.sl o 1 b.length (flat b),.bool high] s Q:=by
 refine FO RN rfl rfl ?_
 rw[Kh]
 conv in dec _=>reduce
 simp -implicitDefEqProofs only[go_sem,seval,bL]
 refine FE.app (O3 hr) ?_
 simp -implicitDefEqProofs only[go_sem,seval,bL]
 exact hq
section
variable{s0 s:ae}{b:List UInt8}{most:Int}{B BR:Nat}{z:ZS}{Q:List AV->ae->Prop}
theorem qE(hS:pI s0 s b most B BR z){l:List Int}{ow:Bool}{n:Nat}(hn:l.length=n)(h0:∀s',pI s0 s' b most B BR (kv l z)->(kv l z).e≠0->(∀x,gv s x->gv s' x)->Q [.fj] s')
 (h1:∀s' x,pI s0 s' b most B BR (kv l z)->(kv l z).e=0->(∀x,gv s x->gv s' x)->gv s' x->x.lens=l->Q [.ref x.B 0] s'):FN prog 174 [.ref B 0,.sl ow 1 n (flat l)] s Q:=by
 subst hn
 refine FO Pt rfl rfl ?_
 rw[Gt]
 conv in dec _=>reduce
 have hB:=hS.hB
 simp -implicitDefEqProofs only[go_sem,seval,hB,bL]
 refine⟨fun he=>?_,fun he=>?_⟩
 ·have he:z.e≠0:=by simpa using he
  have e:kv l z=z:=by unfold kv ZS.fail;rw[if_neg he];split<;>rfl
  rw[e]at h0
  exact h0 s hS he fun x h=>h
 ·have he:z.e=0:=by simpa using he
  refine aaj (fun hk s' hs=>?_) (fun hk s' x hs hx hl=>?_)
  ·have hS':=hS.more hs
   simp -implicitDefEqProofs only[go_sem,seval,bL]
   refine yq hS' 13 fun s2 hS2 ht _=>?_
   have e:kv l z=z.fail 13:=by unfold kv;rw[if_pos hk]
   rw[e]at h0
   simp -implicitDefEqProofs only[go_sem,seval,bL]
   exact h0 s2 hS2 (fX z 13 (by decide)).2.2 fun x h=>ht x (h.mono hs)
  ·have hS':=hS.more hs
   simp -implicitDefEqProofs only[go_sem,seval,bL]
   refine yq hS' 0 fun s2 hS2 ht _=>?_
   have e:kv l z=z:=by unfold kv;rw[if_neg (by omega)]
   have e2:z.fail 0=z:=by unfold ZS.fail;rw[if_pos he,<-he]
   rw[e]at h1
   rw[e2]at hS2
   simp -implicitDefEqProofs only[go_sem,seval,bL]
   exact h1 s2 x hS2 he (fun x h=>ht x (h.mono hs)) (ht x hx) hl
def ptr(p:AV):Prop:=p=.fj\/∃x,p=.ref x 0
theorem WH(hS:pI s0 s b most B BR z)(he:z.e≠0){p:AV}(hp:ptr p)(hq:Q [.int .i64 0] s):FN prog 227 [.ref B 0,p] s Q:=by
 rcases hp with rfl|⟨x,rfl⟩
 all_goals
  refine FO jv rfl rfl ?_
  rw[gl]
  conv in dec _=>reduce
  have hB:=hS.hB
  have hc:(z.e !=0)=true:=by simpa using he
  simp -implicitDefEqProofs only[go_sem,seval,hB,hc,bL]
  exact hq
theorem GA{P:Program}{live:List (Nat×Bool)}{l:Nat}{r:IC}{Q:Exit->St->Prop}{E:St}(h:∀J,fK P r (Ib l live J Q) E):T8 P l live r Q E:=y9 (S:=Unit) (O:=Unit) (body:=fun _=>some (.inr ())) (s0:=()) (kf:=fun _=>True) (fun _=>E) rfl (fun J _ _=>h J) ⟨(),gD 0 (fun _=>()) rfl (by decide) (fun k hk=>by omega) rfl,trivial⟩
theorem UE(hS:pI s0 s b most B BR z)(he:z.e≠0){p q:AV}(hp:ptr p)(hq':ptr q)(hq:Q [] s):FN prog 173 [.ref B 0,p,q] s Q:=by
 have hp0:=hp
 rcases hp with rfl|⟨x,rfl⟩<;>rcases hq' with rfl|⟨y,rfl⟩
 all_goals
  refine FO kK rfl rfl ?_
  rw[il]
  conv in dec _=>reduce
  have hB:=hS.hB
  have hc:(z.e !=0)=true:=by simpa using he
  simp -implicitDefEqProofs only[go_sem,seval,bL]
  refine GA fun J=>?_
  simp -implicitDefEqProofs only[go_sem,seval,bL]
  refine WH hS he hp0 ?_
  simp -implicitDefEqProofs only[go_sem,seval,hB,hc,bL]
  exact hq
theorem VB(hS:pI s0 s b most B BR z)(he:z.e≠0)(n:Int)(hq:Q [.sl true 1 0 []] s):FN prog 231 [.ref B 0,.fj,.int .i64 n] s Q:=by
 refine FO jx rfl rfl ?_
 rw[gm]
 conv in dec _=>reduce
 have hB:=hS.hB
 have hc:(z.e !=0)=true:=by simpa using he
 simp -implicitDefEqProofs only[go_sem,seval,bL]
 refine GA fun J=>?_
 simp -implicitDefEqProofs only[go_sem,seval,hB,hc,Bool.or_true,bL]
 exact hq
end
theorem sQ:mH.length=288:=rfl
theorem Q6{k:Nat}(h:k<288):mH[k]? =some (if k<144\/k>279 then 8 else if k<256 then 9 else 7):=by
 unfold mH
 rw[List.getElem?_map,List.getElem?_range h];rfl
def js(l:List Int)(n k:Nat):List Int:=l.take k++List.replicate (n -k) 0
theorem Ga{l:List Int}{n k:Nat}(hl:l.length=n)(hk:k<n){x:Int}(hx:l[k]? =some x):(js l n k).set k x=js l n (k+1):=by
 unfold js
 have ht:(l.take k).length=k:=by rw[List.length_take];omega
 rw[List.set_append_right _ _ (by omega),ht,Nat.sub_self,show n -k=(n -(k+1))+1 by omega,List.replicate_succ,List.set_cons_zero,List.take_add_one,hx]
 simp
theorem F9{l:List Int}{n k:Nat}(hl:l.length=n)(hk:k<=n):(js l n k).length=n:=by
 unfold js
 simp;omega
theorem F8{l:List Int}{n:Nat}(hl:l.length=n):js l n n=l:=by
 unfold js
 rw[List.take_of_length_le (by omega),Nat.sub_self];simp
theorem CU{E:St}{d:Option Nat}{K:St->Prop}{b n:Nat}{l:List Int}(hs:E.s b=some (.cells (flat l)))(hl:l.length=n)(hn:0<n)(hK:K ({E with s:=E.s.del b}.put d (.sl true 1 n (flat l)))):vG 1 true E d K (.arr b 0 n n):=by
 have hlc:(flat l).length=n:=by rw[aR,hl];exact Nat.mul_one _
 have dt:decide (0+n*1<=(flat l).length)=true:=by rw[hlc];simp
 have e1:views (AB.sub (flat l) 0 (n*1))=flat l:=by
  unfold AB.sub
  rw[List.drop_zero,List.take_of_length_le (by omega),bd]
 refine .inr ⟨hn,Nat.le_refl _,fun _=>⟨rfl,?_,?_⟩,?_⟩
 ·rw[hs];show 0+n*1<=_;omega
 ·rw[hs];show _=0+n*1;omega
 ·rw[hs]
  show vG.frzK 1 true E d K b n (bif decide (0+n*1<=(flat l).length)then some (n,views (AB.sub (flat l) 0 (n*1)))else none)
  rw[dt,e1]
  exact hK
theorem Zg{s:ae}:FE prog 172 [] s [.sl true 1 288 (flat mH),.sl true 1 30 (flat mG)] s:=by
 have cf:room=140737488355328:=rfl
 refine FO Pr rfl rfl ?_
 generalize hQ:(fun rs t=>rs=[AV.sl true 1 288 (flat mH),.sl true 1 30 (flat mG)]/\t=s)=Q
 rw[Gr]
 conv in dec _=>reduce
 simp -implicitDefEqProofs only[go_sem,seval,bL]
 refine YI (fun φ=>∃b6 b7 S,S b6=some (.cells (flat (js mH 288 0)))/\S b7=some (.cells (flat (js mG 30 0)))/\b6≠b7/\s b6=none/\s b7=none/\(∀x,x≠b6->x≠b7->S x=s x)/\φ=⟨[(2,.arr b6 0 288 288),(3,.arr b7 0 30 30)],[],S⟩) ?_ ?_
 ·intro K hK
  repeat'(first|(simp only[cN,ck,bK,cj,we,xR,Bool.not_true,Bool.not_false,Bool.or_true,Bool.true_or,Bool.false_or,Bool.or_false,Bool.and_true,Bool.true_and,Bool.and_false,Bool.false_and,cond_true,cond_false,true_and,and_true];done)|with_reducible refine⟨?_,?_⟩|with_reducible exact trivial|omega|(intro b hb)|(simp only[cN,ck,bK,cj,we,xR,Bool.not_true,Bool.not_false,Bool.or_true,Bool.true_or,Bool.false_or,Bool.or_false,Bool.and_true,Bool.true_and,Bool.and_false,Bool.false_and,cond_true,cond_false,true_and,and_true])|simp -implicitDefEqProofs only[go_sem,seval])
  all_goals
   rename_i b1 h1
   have hne:b≠b1:=fun e=>by subst e;rw[ch]at hb;cases hb
   rw[ah hne]at hb
   first
    |exact hK _ ⟨b1,b,_,(ah hne.symm).trans ch,ch,hne.symm,h1,hb,fun x hx hy=>(ah hy).trans (ah hx),rfl⟩
    |exact hK _ ⟨b,b1,_,ch,(ah hne.symm).trans ch,hne,hb,h1,fun x hx hy=>(ah hx).trans (ah hy),rfl⟩
 ·rintro φ ⟨b6,b7,S,h6,h7,hne,n6,n7,hS,rfl⟩
  simp -implicitDefEqProofs only[go_sem,seval,bL]
  refine eV 288 (fun k τ=>∃S:ae,S b6=some (.cells (flat (js mH 288 k)))/\S b7=some (.cells (flat (js mG 30 0)))/\(∀x,x≠b6->x≠b7->S x=s x)/\τ=⟨[(2,.arr b6 0 288 288),(3,.arr b7 0 30 30),(9,.int .i64 288),(10,.int .i64 k)],[],S⟩) (by decide) ⟨S,h6,h7,hS,rfl⟩ (fun k hk J τ hτ hJ=>?_) (fun J τ hτ=>?_)
  ·obtain⟨S,h6,h7,hS,rfl⟩:=hτ
   have hlt:decide ((k:Int)<288)=true:=by simp;omega
   have hw:aw ((k:Int)+1)=((k+1:Nat):Int):=by rw[ar (by omega) (by omega)];omega
   have hl:=F9 (l:=mH) sQ (k:=k) (by omega)
   have eO:=(GZ (js mH 288 k) (n:=1) rfl (j:=(k:Int)) (by omega) (by omega)).1
   have E0:=fun x=>Lj (js mH 288 k) (n:=1) rfl x (j:=(k:Int)) (by omega) (by omega)
   have hnx:=fun x hx=>Ga (x:=x) sQ hk hx
   have hg:=Q6 hk
   rw[Int.toNat_natCast]at eO E0
   simp -implicitDefEqProofs only[go_sem,seval,hlt,hw,h6,bL]
   have go:∀x:Int,mH[k]? =some x->J ⟨[(2,.arr b6 0 288 288),(3,.arr b7 0 30 30),(9,.int .i64 288),(10,.int .i64 ((k+1:Nat):Int))],[],S.set b6 (.cells (setAt (flat (js mH 288 k)) (k*1) [.int .i64 x]))⟩:=fun x hx=>by
    have e:setAt (flat (js mH 288 k)) (k*1) [.int .i64 x]=flat (js mH 288 (k+1)):=(E0 x).trans (congrArg flat (hnx x hx))
    rw[e]
    exact hJ _ ⟨_,ch,(ah hne.symm).trans h7,fun y hy hz=>(ah hy).trans (hS y hy hz),rfl⟩
   refine⟨fun h=>⟨⟨by omega,by omega⟩,eO,go 8 ?_⟩,fun h=>⟨fun h2=>⟨⟨by omega,by omega⟩,eO,go 9 ?_⟩,fun h2=>⟨⟨by omega,by omega⟩,eO,go 7 ?_⟩⟩⟩
   ·rw[hg,if_pos (by simp at h;omega)]
   ·rw[hg,if_neg (by simp at h;omega),if_pos (by simp at h2;omega)]
   ·rw[hg,if_neg (by simp at h;omega),if_neg (by simp at h2;omega)]
  ·obtain⟨S,h6,h7,hS,rfl⟩:=hτ
   have hlt:decide ((288:Int)<288)=false:=by decide
   show fK _ _ _ ⟨[(2,.arr b6 0 288 288),(3,.arr b7 0 30 30),(9,.int .i64 288),(10,.int .i64 288)],[],S⟩
   rw[F8 sQ]at h6
   simp -implicitDefEqProofs only[go_sem,seval,hlt,bL]
   refine eV 30 (fun k τ=>∃S:ae,S b6=some (.cells (flat mH))/\S b7=some (.cells (flat (js mG 30 k)))/\(∀x,x≠b6->x≠b7->S x=s x)/\τ=⟨[(2,.arr b6 0 288 288),(3,.arr b7 0 30 30),(34,.int .i64 30),(35,.int .i64 k)],[],S⟩) (by decide) ⟨S,h6,h7,hS,rfl⟩ (fun k hk J τ hτ hJ=>?_) (fun J τ hτ=>?_)
   ·obtain⟨S,h6,h7,hS,rfl⟩:=hτ
    have hlt:decide ((k:Int)<30)=true:=by simp;omega
    have hw:aw ((k:Int)+1)=((k+1:Nat):Int):=by rw[ar (by omega) (by omega)];omega
    have hD:mG.length=30:=rfl
    have hl:=F9 (l:=mG) hD (k:=k) (by omega)
    have eO:=(GZ (js mG 30 k) (n:=1) rfl (j:=(k:Int)) (by omega) (by omega)).1
    have E0:=Lj (js mG 30 k) (n:=1) rfl (5:Int) (j:=(k:Int)) (by omega) (by omega)
    have hnx:=Ga (x:=5) hD hk (by unfold mG;rw[List.getElem?_replicate,if_pos hk])
    rw[Int.toNat_natCast]at eO E0
    have e:setAt (flat (js mG 30 k)) (k*1) [.int .i64 5]=flat (js mG 30 (k+1)):=E0.trans (congrArg flat hnx)
    simp -implicitDefEqProofs only[go_sem,seval,hlt,hw,h7,e,bL]
    exact⟨⟨by omega,by omega⟩,eO,hJ _ ⟨_,(ah hne).trans h6,ch,fun y hy hz=>(ah hz).trans (hS y hy hz),rfl⟩⟩
   ·obtain⟨S,h6,h7,hS,rfl⟩:=hτ
    have hlt:decide ((30:Int)<30)=false:=by decide
    show fK _ _ _ ⟨[(2,.arr b6 0 288 288),(3,.arr b7 0 30 30),(34,.int .i64 30),(35,.int .i64 30)],[],S⟩
    rw[F8 (l:=mG) (n:=30) rfl]at h7
    simp -implicitDefEqProofs only[go_sem,seval,hlt,bL]
    refine CU (l:=mH) h6 sQ (by decide) ?_
    simp -implicitDefEqProofs only[go_sem,seval,bL]
    have h7':(S.del b6) b7=some (.cells (flat mG)):=by
     unfold ae.del
     rw[if_neg hne.symm];exact h7
    refine CU (l:=mG) h7' rfl (by decide) ?_
    simp -implicitDefEqProofs only[go_sem,seval,bL]
    subst hQ
    refine⟨rfl,?_⟩
    funext x
    unfold ae.del
    by_cases h1:x=b7
    ·rw[if_pos h1,h1,n7]
    ·rw[if_neg h1]
     by_cases h2:x=b6
     ·rw[if_pos h2,h2,n6]
     ·rw[if_neg h2];exact hS x h2 h1
end Go.AB
end
