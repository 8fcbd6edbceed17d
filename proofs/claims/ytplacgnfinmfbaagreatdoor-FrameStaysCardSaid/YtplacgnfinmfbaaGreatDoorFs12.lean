/- A part. -/
import Derived.Defers
import Derived.Test.YtplacgnfinmfbaaGreatDoorRows
import Derived.Test.YtplacgnfinmfbaaGreatDoorCards
import Derived.Test.YtplacgnfinmfbaaGreatDoorTie
import Derived.SevenTiedAt
import Derived.Laws.RangeAny
import Derived.LoopTactic
import Derived.Test.YtplacgnfinmfbaaGreatDoorFs10
import Derived.Lib.Bytealg
import Derived.Laws.Externs
import Derived.Lib.Walk
import Derived.Lib.BytesEntry
import Derived.Lib.UnsafeStr
set_option linter.unusedSimpArgs false
set_option linter.unusedVariables false
section
namespace Go.AB
open Go
abbrev KK(α:Type):=Nat->Nat->(α->Nat->Nat->IC)->IC
def dR(r:Nat):KK Nat:=fun n p k=>match n/r with
 |0=>k (n % r) 0 p
 |m+1=>k (n % r) (m+1) p
def dN:KK Nat:=fun n p k=>dR 16 n p fun c n p=>match c with
 |14=>dR 256 n p fun x n p=>k (x+14) n p
 |15=>dR 4 n p fun s n p=>dR (2^(16*2^s)) n p k
 |c=>k c n p
def dB:KK Bool:=fun n p k=>dR 2 n p fun c n p=>match c with
 |0=>k false n p
 |_=>k true n p
def dM{α:Type}(f:KK α):Nat->KK (List α)
 |0,n,p,k=>k [] n p
 |m+1,n,p,k=>f n p fun x n p=>dM f m n p fun xs n p=>k (x::xs) n p
def dL{α:Type}(f:KK α):KK (List α):=fun n p k=>dN n p fun m n p=>dM f m n p k
def dP{α β:Type}(f:KK α)(g:KK β):KK (α×β):=fun n p k=>f n p fun a n p=>g n p fun b n p=>k (a,b) n p
def dO{α:Type}(f:KK α):KK (Option α):=fun n p k=>dB n p fun c n p=>match c with
 |false=>k none n p
 |true=>f n p fun a n p=>k (some a) n p
def dK:KK IntKind:=fun n p k=>dR 8 n p fun c n p=>match c with
 |0=>k .i64 n p
 |1=>k .u8 n p
 |2=>k .u32 n p
 |3=>k .u64 n p
 |4=>k .i32 n p
 |_=>k .u16 n p
def u8s(l:List Nat):List UInt8:=l.map UInt8.ofNat
def dA:Nat->KK AV
 |0,_,_,_=>.dead
 |f+1,n,p,k=>dR 16 n p fun c n p=>match c with
  |0=>dN n p fun x n p=>k (.int .i64 (.ofNat x)) n p
  |1=>dK n p fun i n p=>dN n p fun x n p=>k (.int i (.ofNat x)) n p
  |2=>dR 256 n p fun x n p=>k (.int .u8 (.ofNat x)) n p
  |3=>k (.bool false) n p
  |4=>k (.bool true) n p
  |5=>dL (dR 256) n p fun s n p=>k (.str (u8s s)) n p
  |6=>k .fj n p
  |7=>dB n p fun o n p=>dN n p fun s n p=>dN n p fun m n p=>dL (dA f) n p fun c n p=>k (.sl o s m c) n p
  |8=>dL (dA f) n p fun c n p=>k (.agg c) n p
  |9=>k .py n p
  |10=>dR 512 n p fun g n p=>dL (dA f) n p fun a n p=>dL (dA f) n p fun c n p=>k (.fn g a c) n p
  |11=>dN n p fun t n p=>dN n p fun m n p=>dL (dA f) n p fun c n p=>k (.bb t m c) n p
  |12=>k .kQ n p
  |13=>k .ud n p
  |14=>dN n p fun x n p=>k (.int .i64 (.negSucc x)) n p
  |_=>k (.arr 0 0 0 0) n p
def dX:KK IX:=fun n p k=>dR 16 n p fun c n p=>match c with
 |0=>dA 8 n p fun a n p=>k (.c a) n p
 |15=>dN n p fun i n p=>k (.t i) n p
 |c=>bif Nat.blt c 8 then k (.t (p+1 -c)) n p else k (.t (c -8)) n p
def dBo:KK BinOp:=fun n p k=>dR 17 n p fun c n p=>match c with
 |0=>k .add n p
 |1=>k .sub n p
 |2=>k .mul n p
 |3=>k .quo n p
 |4=>k .rem n p
 |5=>k .and n p
 |6=>k .or n p
 |7=>k .xor n p
 |8=>k .shl n p
 |9=>k .shr n p
 |10=>k .andNot n p
 |11=>k .lss n p
 |12=>k .leq n p
 |13=>k .gtr n p
 |14=>k .geq n p
 |15=>k .eql n p
 |_=>k .neq n p
def dUo:KK UnOp:=fun n p k=>dR 3 n p fun c n p=>match c with
 |0=>k .not n p
 |1=>k .neg n p
 |_=>k .xor n p
def dOq:KK rY:=fun n p k=>dR 64 n p fun c n p=>match c with
 |0=>dUo n p fun a n p=>dX n p fun b n p=>k (.un a b) n p
 |1=>dK n p fun a n p=>dX n p fun b n p=>k (.mF a b) n p
 |2=>dN n p fun a n p=>dX n p fun b n p=>k (.Jw a b) n p
 |3=>dN n p fun a n p=>dX n p fun b n p=>dO dX n p fun c n p=>dO dX n p fun d n p=>dO dX n p fun e n p=>k (.slice a b c d e) n p
 |4=>dN n p fun a n p=>dN n p fun b n p=>dL (dA 8) n p fun c n p=>dL (dP dN (dP dN dX)) n p fun d n p=>k (.gr a b c d) n p
 |5=>dX n p fun a n p=>dL dX n p fun b n p=>k (.gw a b) n p
 |6=>dN n p fun a n p=>dN n p fun b n p=>dX n p fun c n p=>dX n p fun d n p=>k (.iQ a b c d) n p
 |7=>dN n p fun a n p=>dX n p fun b n p=>k (.Bd a b) n p
 |8=>dN n p fun a n p=>dN n p fun b n p=>dL (dA 8) n p fun c n p=>dX n p fun d n p=>dX n p fun e n p=>k (.mZ a b c d e) n p
 |9=>dB n p fun a n p=>dX n p fun b n p=>dX n p fun c n p=>k (.T5 a b c) n p
 |10=>dX n p fun a n p=>dO dX n p fun b n p=>dO dX n p fun c n p=>k (.pC a b c) n p
 |11=>dX n p fun a n p=>dX n p fun b n p=>k (.kX a b) n p
 |12=>dX n p fun a n p=>k (.jG a) n p
 |13=>dL (dA 8) n p fun a n p=>k (.mC a) n p
 |14=>dN n p fun a n p=>dN n p fun b n p=>dX n p fun c n p=>dX n p fun d n p=>k (.append a b c d) n p
 |15=>dN n p fun a n p=>dB n p fun b n p=>dX n p fun c n p=>k (.T7 a b c) n p
 |16=>dX n p fun a n p=>k (.mh a) n p
 |17=>dR 512 n p fun a n p=>dL dX n p fun b n p=>dL dX n p fun c n p=>k (.ub a b c) n p
 |18=>dN n p fun a n p=>dN n p fun b n p=>dL (dA 8) n p fun c n p=>dX n p fun d n p=>dX n p fun e n p=>k (.kP a b c d e) n p
 |19=>dX n p fun a n p=>k (.cap a) n p
 |20=>dB n p fun a n p=>dX n p fun b n p=>k (.UR a b) n p
 |21=>dN n p fun a n p=>dN n p fun b n p=>dL (dA 8) n p fun c n p=>dL (dP dN (dP dN dX)) n p fun d n p=>k (.ks a b c d) n p
 |22=>dN n p fun a n p=>dX n p fun b n p=>dX n p fun c n p=>k (.m3 a b c) n p
 |23=>dB n p fun a n p=>dL dX n p fun b n p=>k (.nY a b) n p
 |24=>dN n p fun a n p=>dN n p fun b n p=>dN n p fun c n p=>dN n p fun d n p=>dX n p fun e n p=>k (.Hp a b c d e) n p
 |25=>dX n p fun a n p=>k (.gy a) n p
 |26=>dX n p fun a n p=>k (.kz a) n p
 |27=>dN n p fun a n p=>dN n p fun b n p=>dL (dA 8) n p fun c n p=>dX n p fun d n p=>dX n p fun e n p=>k (.m4 a b c d e) n p
 |28=>dB n p fun a n p=>dX n p fun b n p=>k (.UQ a b) n p
 |29=>dB n p fun a n p=>dX n p fun b n p=>dX n p fun c n p=>k (.XD a b c) n p
 |30=>dN n p fun a n p=>dB n p fun b n p=>dX n p fun c n p=>k (.zd a b c) n p
 |31=>dX n p fun a n p=>k (.HD a) n p
 |32=>dR 512 n p fun a n p=>dX n p fun b n p=>k (.yf a b) n p
 |33=>dN n p fun a n p=>dX n p fun b n p=>k (.HC a b) n p
 |34=>dB n p fun a n p=>dX n p fun b n p=>dX n p fun c n p=>k (.T6 a b c) n p
 |35=>dN n p fun a n p=>dN n p fun b n p=>dX n p fun c n p=>k (.Ho a b c) n p
 |36=>dL (dA 8) n p fun a n p=>dX n p fun b n p=>k (.qU a b) n p
 |_=>dR 512 n p fun a n p=>dN n p fun b n p=>dL dX n p fun c n p=>k (.ye a b c) n p
def dOp:KK rY:=fun n p k=>dR 16 n p fun c n p=>match c with
 |0=>dB n p fun a n p=>dX n p fun b n p=>k (.oM a b) n p
 |1=>dBo n p fun a n p=>dX n p fun b n p=>dX n p fun c n p=>k (.bin a b c) n p
 |2=>dN n p fun a n p=>dX n p fun b n p=>k (.fieldAddr a b) n p
 |3=>dN n p fun a n p=>dB n p fun b n p=>dX n p fun c n p=>k (.load a b c) n p
 |4=>dR 512 n p fun a n p=>dL dX n p fun b n p=>k (.call a b) n p
 |5=>dX n p fun a n p=>k (.nilCheck a) n p
 |6=>dN n p fun a n p=>dX n p fun b n p=>dX n p fun c n p=>k (.store a b c) n p
 |7=>dX n p fun a n p=>dN n p fun b n p=>k (.extract a b) n p
 |8=>dX n p fun a n p=>dX n p fun b n p=>dX n p fun c n p=>k (.pick a b c) n p
 |9=>dL (dA 8) n p fun a n p=>dB n p fun b n p=>dX n p fun c n p=>k (.kN a b c) n p
 |10=>dL (dA 8) n p fun a n p=>dX n p fun b n p=>dX n p fun c n p=>k (.indexAddr a b c) n p
 |11=>dN n p fun a n p=>dX n p fun b n p=>k (.len a b) n p
 |12=>dL (dA 8) n p fun a n p=>dL (dP dN (dP dN dX)) n p fun b n p=>k (.build a b) n p
 |13=>dL (dA 8) n p fun a n p=>k (.jq a) n p
 |14=>dX n p fun a n p=>k (.qt a) n p
 |_=>dOq n p k
def dGd(c:Nat):KK (Option (Nat×Bool)):=fun n p k=>bif Nat.blt c 3 then k none n p else dX n p fun x n p=>dB n p fun w n p=>match x with
 |.t i=>k (some (i,w)) n p
 |_=>.dead
def dFo(x:Nat)(k:Nat->IC):IC:=match x with
 |0=>k 0
 |m+1=>k (m+1)
def dOr:KK au:=fun n p k=>dR 6 n p fun c n p=>match c % 3 with
 |0=>dGd c n p fun g n p=>dOp n p fun o n p=>k ⟨none,o,g⟩ n p
 |1=>dGd c n p fun g n p=>dOp n p fun o n p=>dFo (p+1) fun d=>k ⟨some d,o,g⟩ n d
 |_=>dN n p fun d n p=>dGd c n p fun g n p=>dOp n p fun o n _=>dFo d fun d=>k ⟨some d,o,g⟩ n d
def dSl:Nat->Nat->KK (List Nat)
 |0,_,n,p,k=>k [] n p
 |m+1,q,n,p,k=>dN n p fun x n p=>dFo (q+x) fun q=>dSl m q n p fun xs n p=>k (q::xs) n p
def dVs:KK (List Nat):=fun n p k=>dN n p fun m n p=>dSl m 0 n p k
def dSb:Nat->Nat->KK (List (Nat×Bool))
 |0,_,n,p,k=>k [] n p
 |m+1,q,n,p,k=>dN n p fun x n p=>dB n p fun b n p=>dFo (q+x) fun q=>dSb m q n p fun xs n p=>k ((q,b)::xs) n p
def dW:KK (List (Nat×Bool)):=fun n p k=>dN n p fun m n p=>dSb m 0 n p k
def dC:Nat->KK IC
 |0,_,_,_=>.dead
 |f+1,n,p,k=>dR 9 n p fun c n p=>match c with
  |0=>dC f n p fun a n p=>dC f n p fun b n p=>k (.seq a b) n p
  |1=>dL dOr n p fun o n p=>dVs n p fun v n p=>k (.Yo none o v) n p
  |2=>dX n p fun x n p=>dC f n p fun a n p=>dC f n p fun b n p=>k (.cond x a b) n p
  |3=>k .ret n p
  |4=>k .skip n p
  |5=>dN n p fun m n p=>dC f n p fun a n p=>k (.block m a) n p
  |6=>dW n p fun v n p=>dC f n p fun a n p=>k (.loop v a) n p
  |7=>dW n p fun v n p=>dC f n p fun a n p=>dC f n p fun b n p=>k (.join v a b) n p
  |_=>dR 10 n p fun c n p=>match c with
   |0=>dN n p fun m n p=>k (.exit m) n p
   |1=>dN n p fun q n p=>dL dOr n p fun o n p=>dVs n p fun v n p=>k (.Yo (some q) o v) n p
   |2=>dN n p fun m n p=>k (.label m) n p
   |3=>dN n p fun m n p=>k (.goto m) n p
   |4=>dC f n p fun a n p=>k (.scope a) n p
   |5=>dVs n p fun t n p=>dN n p fun q n p=>dL dOr n p fun o n p=>dVs n p fun v n p=>k (.S0 t q o v) n p
   |6=>dL (dL dB) n p fun t n p=>dL dOr n p fun o n p=>dVs n p fun v n p=>k (.Ta t o v) n p
   |7=>k .dead n p
   |8=>dVs n p fun t n p=>dL (dP (dR 4) (dP dN dOr)) n p fun o n p=>dVs n p fun v n p=>k (.SZ t o v) n p
   |_=>dN n p fun m n p=>dW n p fun v n p=>dC f n p fun a n p=>dC f n p fun b n p=>dC f n p fun c n p=>dC f n p fun d n p=>k (.Ec m v a b c d) n p
def dec(n:Nat):IC:=dC 400 n 0 fun c _ _=>c
attribute[irreducible] u8s
theorem ofN(n:Nat):Int.ofNat (no_index (OfNat.ofNat n))=OfNat.ofNat n:=rfl
theorem ngN(n:Nat):Int.negSucc n=-((n+1:Nat):Int):=rfl
theorem WN:u8s []=[]:=by unfold u8s;rfl
theorem TK(n:Nat)(l:List Nat):u8s (no_index (OfNat.ofNat n)::l)=OfNat.ofNat n::u8s l:=by unfold u8s;rfl
attribute[go_sem] ofN ngN WN TK
section
variable{P:Program}{n:Nat}
def FND(P:Program)(f:FuncId)(args:List AV)(s:ae)(Q:List AV->ae->Prop):Prop:=
 ∀(G:Gh)(w:World)(vs:Array Value)(u:FrameMode),cE G w->xX G->bc G w s->rL w G.R args vs->
  CallsD P f vs u w fun e u' w'=>u'=u/\∃v rs s' G',e=.returned v/\Q rs s'/\cE G' w'/\bc G' w' s'/\qP G' w' rs v/\aK G w G' w'
theorem FND.of{f:FuncId}{res:List lu}{ic:IC}{args:List AV}{s:ae}{Q:List AV->ae->Prop}(hD:wS P n)(hf:aS P f n res ic=true)(hv:wU args=true)(hn:args.length<=n)
 (hw:fK P ic (FB res Q) (start args s)):FND P f args s Q:=by
 intro G w vs u hg ho hs ha
 unfold aS at hf
 split at hf<;>try(cases hf;done)
 rename_i fn hfn
 simp only[Bool.and_eq_true,beq_iff_eq]at hf
 obtain⟨⟨rfl,nb⟩,hf⟩:=hf
 split at hf<;>try(cases hf;done)
 rename_i c hb
 refine callsD_of_wp hfn hb (cG hD ic c G w (FB res Q) _ G _ _ w hf ?_ (qC hg hs ha hv hn) (aK.refl G w) hw)
 intro x G' E' a' w' h hp hq
 have fin:wU (j5 E' res)=true/\Q (j5 E' res) E'.s->a'.defers=[]/\∃v,(results fn a'.tmps).run P w'=.ok v w'/\∃v' rs s' G'',Ending.returned v=.returned v'/\Q rs s'/\cE G'' w'/\bc G'' w' s'/\qP G'' w' rs v'/\aK G w G'' w':=by
  intro hq
  obtain⟨eD,hQ⟩:=hq
  exact⟨h.pO,BZ nb h hp eD hQ⟩
 cases x with
 |ret=>exact fin hq
 |normal=>exact fin hq
 |_=>exact hq.elim
def Nt:List Operand->List Nat->Bool
 |[],[]=>true
 |.tmp t::r,y::ys=>t==y&&Nt r ys
 |_,_=>false
def Xv(g:Nat)(ys:List Nat):Code->Bool
 |.region _ ops false=>match ops.toList with
  |[⟨none,.defer ⟨.value (.func g'),args,_⟩,_,_,_,none⟩]=>g'==g&&Nt args.toList ys
  |_=>false
 |_=>false
def Q9(P:Program)(f:FuncId)(n:Nat)(res:List lu)(ic1:IC)(g:Nat)(ys:List Nat)(ic2:IC):Bool:=match P.funcs[f]? with
 |some fn=>fn.ntmps==n&&jm P fn.results.toList res&&(match fn.body with
  |some (.seq c1 (.seq cd c2))=>kZ P n c1 ic1&&(Xv g ys cd&&(kZ P n c2 ic2&&vE P g))
  |_=>false)
 |none=>false
def Cm(bs:List Nat):List AV:=bs.map fun b=>.ref b 0
theorem Cj{G:Gh}{D:List Deferred}{E:St}{a:Act}{w:World}(h:Inv G n D E a w):∀(os:List Operand)(ys bs:List Nat),Nt os ys=true->ys.map (look E.e)=Cm bs->os.map a.eval=bs.map fun b=>Value.pointer (some ⟨b,0,none⟩)
 |[],[],bs,_,hb=>by
  cases bs with
  |nil=>rfl
  |cons b bs=>cases hb
 |.tmp t::os,y::ys,bs,hc,hb=>by
  cases bs with
  |nil=>cases hb
  |cons b bs=>
   simp only[Nt,Bool.and_eq_true,beq_iff_eq]at hc
   obtain⟨rfl,hc⟩:=hc
   rw[List.map_cons]at hb
   injection hb with h1 h2
   rw[List.map_cons,List.map_cons,Cj h os ys bs hc h2]
   congr 1
   have hx:bQ (.tmp t) (.t t)=true:=by simp[bQ]
   have hb:=BR.aV h hx
   have e:xg true E (.t t)=.ref b 0:=by
    show xT true (look E.e t)=_
    rw[h1];rfl
   rw[e]at hb
   have hv:VR w G.R (.ref b 0) (a.eval (.tmp t)):=hb
   generalize a.eval (.tmp t)=v at hv
   cases hv
   rfl
 |[],_::_,_,hc,_=>by cases hc
 |.tmp _::_,[],_,hc,_=>by cases hc
 |.const _::_,_,_,hc,_=>by cases hc
 |.global _::_,_,_,hc,_=>by cases hc
 |.func _::_,_,_,hc,_=>by cases hc
def Wu(P:Program)(g:Nat)(bs:List Nat)(res:List lu)(Q:List AV->ae->Prop):Exit->St->Prop
 |.ret,E=>FND P g (Cm bs) E.s fun rs s'=>iX rs=true/\wU (j5 {E with s:=s'} res)=true/\Q (j5 {E with s:=s'} res) s'
 |_,_=>False
theorem FN.ofD{f:FuncId}{res:List lu}{ic1 ic2:IC}{g:Nat}{ys:List Nat}{args:List AV}{s:ae}{Q:List AV->ae->Prop}(hD:wS P n)(hf:Q9 P f n res ic1 g ys ic2=true)(hv:wU args=true)(hn:args.length<=n)
 (hw:fK P ic1 (fun x E=>x=.normal/\∃bs,ys.map (look E.e)=Cm bs/\fK P ic2 (Wu P g bs res Q) E) (start args s)):FN P f args s Q:=by
 intro G w vs hg ho hs ha
 unfold Q9 at hf
 split at hf<;>try(cases hf;done)
 rename_i fn hfn
 simp only[Bool.and_eq_true,beq_iff_eq]at hf
 obtain⟨⟨rfl,nb⟩,hf⟩:=hf
 split at hf<;>try(cases hf;done)
 rename_i c1 cd c2 hb
 simp only[Bool.and_eq_true]at hf
 obtain⟨k1,kd,k2,kg⟩:=hf
 refine calls_of_wp_defers hfn hb (wp_seq (cG hD ic1 c1 G w (fun x E=>x=.normal/\∃bs,ys.map (look E.e)=Cm bs/\fK P ic2 (Wu P g bs res Q) E) _ G _ _ w k1 ?_ (qC hg hs ha hv hn) (aK.refl G w) hw))
 rintro x G1 σ1 a1 w1 h1 hp1 ⟨rfl,bs,hbs,hw2⟩
 show(Code.seq cd c2).wp P _ a1 w1
 refine wp_seq ?_
 unfold Xv at kd
 split at kd<;>try(cases kd;done)
 rename_i id ops
 split at kd<;>try(cases kd;done)
 rename_i g' Xu ahQ dty ahP ahN aib
 simp only[Bool.and_eq_true,beq_iff_eq]at kd
 obtain⟨rfl,kd⟩:=kd
 have hev:=Cj h1 _ _ _ kd hbs
 let d:Deferred:={target:=.fn (.func g') #[],args:=(bs.map fun b=>Value.pointer (some ⟨b,0,none⟩)).toArray}
 refine wp_region_list ?_
 rw[aib]
 show xI P ops _ a1 w1 _ _
 refine DG (by simp[Region.wanted]) ?_
 have cH:(execOp a1.eval {dst:=none,op:=.defer {callee:=.value (.func g'),args:=Xu,argTypes:=ahQ},type:=dty,pos:=ahP,after:=ahN,guard:=none}).run P w1=.ok (.defer d) w1:=by
  have e2:Xu.map a1.eval=(bs.map fun b=>Value.pointer (some ⟨b,0,none⟩)).toArray:=by
   apply Array.ext'
   simp[hev]
  simp[execOp,resolve,Act.eval,Deferred.ofValue,e2,d]
 unfold Oper.wp
 rw[cH]
 have h1':Inv G1 fn.ntmps [d] σ1 {a1 with defers:=[d]} w1:=⟨h1.bj,h1.store,h1.size,h1.cm,h1.EI,h1.LA,rfl⟩
 show c2.wp P _ {a1 with defers:=d::a1.defers} w1
 rw[h1.pO]
 refine cG hD ic2 c2 G w (Wu P g' bs res Q) _ G1 σ1 _ w1 k2 ?_ h1' hp1 hw2
 intro x G2 σ2 a2 w2 h2 hp2 hq
 cases x with
 |ret=>
  show Leaves P fn a2.tmps _ a2.defers .returning w2
  rw[h2.pO]
  unfold vE at kg
  split at kg<;>try(cases kg;done)
  rename_i gfn hgf
  rw[Bool.and_eq_true]at kg
  refine leaves_cons (by simp) (f:=g') (args:=(bs.map fun b=>Value.pointer (some ⟨b,0,none⟩)).toArray) (by simp[invoke,kW hgf kg.1 kg.2]) ?_
  have J9:rL w2 G2.outer.R (Cm bs) (bs.map fun b=>Value.pointer (some ⟨b,0,none⟩)).toArray:=by
   refine⟨by simp[Cm],fun j c u hc hu=>?_⟩
   unfold Cm at hc
   rw[List.getElem?_map]at hc
   rw[List.getElem?_toArray,List.getElem?_map]at hu
   cases hj:bs[j]? with
   |none=>rw[hj]at hc;cases hc
   |some b=>
    rw[hj]at hc hu
    injection hc with hc;injection hu with hu
    subst hc hu
    exact .ref b 0
  refine CallsD.mono (hq G2.outer w2 _ .returning h2.lF.1 (oO G2) h2.lF.2 J9) ?_
  rintro e u' w3 ⟨rfl,v,rs,s',G3,rfl,⟨hok,eD,hQ⟩,hg3,hs3,hr3,hp3⟩
  obtain⟨G4,h4,hp4⟩:=h2.behind (d:=none) rfl hok hg3 hs3 hr3 hp3
  exact BZ nb h4 (hp2.trans hp4) eD hQ
 |_=>exact hq.elim
end
end Go.AB
end
section
namespace Go.Proofs.YtplacgnfinmfbaaGreatDoor
open Go
set_option maxRecDepth 100000
theorem Ur:Rows.frameStaysRow.wfByText (OpenSpec.ofChange Rows.frameStaysSpec)=true:=by kernel_rfl
theorem Us:Tryz.pinned.checked.prog.mainIs=some (true, "b2177a98a635e4c490ed61a895036120674d964ff060c9bdf97e9f060d3466ee".toList):=by kernel_rfl
theorem Ut:Tryz.prog.funcNamed "catchword/catchwordlaw14.FrameStays" =some 4:=by kernel_rfl
theorem Uu:false=Tryz.pinned.checked.prog.looks []:=by kernel_rfl
theorem Uv:Tryz.f4.params= #[22,36,4]:=by kernel_rfl
theorem Uw:([22,36,4].all fun u=>!Tryz.prog.wantsStandIn u)=true:=by kernel_rfl
theorem Ux:false=Rows.frameStaysRow.goesBy Tryz.pinned.checked.prog:=by kernel_rfl
end Go.Proofs.YtplacgnfinmfbaaGreatDoor
end
section
namespace Go.AB
open Go
@[go_sem]abbrev sF{α:Type}[bp α](n:Nat)(l:List α):AV:=.sl false n l.length (flat l)
@[go_sem]abbrev sT{α:Type}[bp α](n:Nat)(l:List α):AV:=.sl true n l.length (flat l)
theorem Gy{S O:Type}{body:S->Option (S⊕O)}(I:S->Prop)(μ:S->Nat)(LF:O->Prop)
 (step:∀s,I s->∃x,body s=some x/\(match x with|.inl t=>I t/\μ t<μ s|.inr o=>LF o)):∀(n:Nat)(s:S),I s->μ s<n->∃o,bV body n s=some o/\LF o
 |0,_,_,h=>absurd h (Nat.not_lt_zero _)
 |n+1,s,hi,hn=>by
  obtain⟨x,hx,h⟩:=step s hi
  cases x with
  |inl t=>
   obtain⟨o,h1,h2⟩:=Gy I μ LF step n t h.1 (by have:=h.2;omega)
   exact⟨o,by unfold bV;rw[hx];exact h1,h2⟩
  |inr o=>exact⟨o,by unfold bV;rw[hx],h⟩
theorem fh{S O:Type}{body:S->Option (S⊕O)}{s0:S}(I:S->Prop)(μ:S->Nat)(LF:O->Prop)(h0:I s0)(hμ:μ s0<18446744073709551616)
 (step:∀s,I s->∃x,body s=some x/\(match x with|.inl t=>I t/\μ t<μ s|.inr o=>LF o)):∃o,iter body s0=some o/\LF o:=
 Gy I μ LF step _ s0 h0 hμ
theorem iter_eq{S O:Type}{body:S->Option (S⊕O)}{s0:S}{o:O}(I:S->Prop)(μ:S->Nat)(h0:I s0)(hμ:μ s0<18446744073709551616)
 (step:∀s,I s->(∃t,body s=some (.inl t)/\I t/\μ t<μ s)\/body s=some (.inr o)):iter body s0=some o:=by
 obtain⟨p,h1,h2⟩:=fh I μ (fun p=>p=o) h0 hμ fun s hs=>by
  rcases step s hs with⟨t,h1,h2⟩|h1
  ·exact⟨_,h1,h2⟩
  ·exact⟨_,h1,rfl⟩
 rw[h1,h2]
theorem ar{n:Int}(h1:-9223372036854775808<=n)(h2:n<=9223372036854775807):aw n=n:=by
 unfold aw IntKind.wrap
 have:(2^IntKind.i64.bits:Int)=18446744073709551616:=by decide
 have h3:(2^(IntKind.i64.bits -1):Int)=9223372036854775808:=by decide
 rw[this,h3]
 simp only[IntKind.signed,Bool.true_and,decide_eq_true_eq]
 split<;>omega
@[simp]theorem aJ{α β:Type}(a:α)(f:α->Option β):aP (some a) f=f a:=rfl
@[simp]theorem adb{α β:Type}(f:α->Option β):aP none f=none:=rfl
@[simp]theorem Ic{α β:Type}(a:α)(f:α->Option β):jn (some a) f=f a:=rfl
@[simp]theorem agJ{α β:Type}(f:α->Option β):jn none f=none:=rfl
@[simp]theorem ahD{X Y α:Type}(x:X)(F:X->Option α)(G:Y->Option α):m5 (some (.inl x)) F G=F x:=rfl
@[simp]theorem ahE{X Y α:Type}(y:Y)(F:X->Option α)(G:Y->Option α):m5 (some (.inr y)) F G=G y:=rfl
@[simp]theorem ajs{X Y α:Type}(x:X)(F:X->Option α)(G:Y->Option α):uY (some (.inl x)) F G=F x:=rfl
@[simp]theorem ajt{X Y α:Type}(y:Y)(F:X->Option α)(G:Y->Option α):uY (some (.inr y)) F G=G y:=rfl
@[simp]theorem aju{α:Type}(o:Option α):jn o (fun a=>some a)=o:=by cases o<;>rfl
@[simp]theorem ahF{α:Type}(o:Option α):aP o (fun a=>some a)=o:=by cases o<;>rfl
theorem bB{α:Type}{c:Prop}[Decidable c](h:c)(o:Option α):aL c o=o:=if_pos h
@[simp]theorem Pz{α:Type}[Decidable True](o:Option α):aL True o=o:=if_pos trivial
@[simp]theorem Jh{α:Type}(z:α)(o:Option α):en true z o=o:=rfl
@[simp]theorem WT{α:Type}(z:α)(o:Option α):en false z o=some z:=rfl
@[simp]theorem adk{A B C:Type}(f:A->C)(g:B->C)(a:A):jS f g (.inl a)=f a:=rfl
@[simp]theorem adl{A B C:Type}(f:A->C)(g:B->C)(b:B):jS f g (.inr b)=g b:=rfl
theorem aep{α:Type}[bp α]{l:List α}{i:Int}(h:i.toNat<l.length):ix l i=l[i.toNat]:=by unfold ix;rw[List.getD_eq_getElem?_getD,List.getElem?_eq_getElem h];rfl
theorem fo{α:Type}[bp α]{l:List α}{k:Nat}(h:k<l.length):ix l (k:Int)=l[k]:=by rw[aep (by simpa using h)];simp
theorem RV{α:Type}[bp α]{l:List α}{k:Nat}{a:α}(h:l[k]? =some a):ix l (k:Int)=a:=by unfold ix;rw[List.getD_eq_getElem?_getD];simp[h]
set_option maxRecDepth 4000
open Go.Proofs.Tryz (prog)
open Go.RowKit
theorem Ek{w:World}{R:Nat->Nat}{a b:AV}{vs:Array Value}(h:rL w R [a,b] vs):∃v0 v1,vs= #[v0,v1]/\VR w R a v0/\VR w R b v1:=by
 obtain⟨hl,hr⟩:=h
 obtain⟨l⟩:=vs
 match l,hl with
 |[v0,v1],_=>exact⟨v0,v1,rfl,hr 0 _ _ rfl rfl,hr 1 _ _ rfl rfl⟩
 |[],hl=>simp at hl
 |[_],hl=>simp at hl
 |_::_::_::_,hl=>simp at hl
theorem Ln{w:World}{R:Nat->Nat}{a:AV}{vs:Array Value}(h:rL w R [a] vs):∃v0,vs= #[v0]/\VR w R a v0:=by
 obtain⟨hl,hr⟩:=h
 obtain⟨l⟩:=vs
 match l,hl with
 |[v0],_=>exact⟨v0,rfl,hr 0 _ _ rfl rfl⟩
 |[],hl=>simp at hl
 |_::_::_,hl=>simp at hl
theorem Bj(a:ByteArray)(c:Int)(w:World):Calls prog 187 #[.string a,.int .u8 c] w fun e w'=>e=.returned (.int .i64 (Lib.indexByte a.data.toList c.toNat.toUInt8))/\w'=w:=by
 have mixed:=mix
 have t3:prog.underlying 3=some (.int .i64):=by kernel_rfl
 have u3:=run_underlying t3
 go_enter Go.Proofs.Tryz.func187,(show Go.Proofs.Tryz.f187.ntmps=8 from rfl)
 go_wp2
 rw[run_callFunc_extern Go.Proofs.Tryz.func235 (by kernel_rfl) (by kernel_rfl) (by kernel_rfl) (e:=Extern.BytealgIndexByte.indexByte) (by kernel_rfl),Lib.run_indexByteString]
 simp only[Result.andThen]
 rw[Oper.upon_value]
 go_wp2
 go_ret
 exact⟨rfl,rfl⟩
def eF(s:aH)(c:UInt8):Option Int:=some (Lib.indexByte s.b c)
theorem pE{a:aH}{c:UInt8}{s:ae}{Q:List AV->ae->Prop}(h:ok (eF a c) fun r=>Q [.int .i64 r] s):FN prog 187 [.str a.b,.int .u8 c.toNat] s Q:=by
 unfold eF at h
 rw[ba]at h
 intro G w vs h1 h2 h3 h4
 obtain⟨v0,v1,rfl,k0,k1⟩:=Ek h4
 rw[VR.iJ k0,VR.dj k1]
 refine(Bj _ _ w).mono fun e w'⟨he,hw⟩=>?_
 subst hw
 refine⟨_,_,s,G,he,h,h1,h3,⟨?_,trivial⟩,aK.refl G w'⟩
 have e:((c.toNat:Int).toNat).toUInt8=c:=by simp
 rw[e]
 exact .int _ _
theorem pD{a:aH}{c:UInt8}{s:ae}{r:Int}(h:eF a c=some r):FE prog 187 [.str a.b,.int .u8 c.toNat] s [.int .i64 r] s:=pE ⟨r,h,rfl,rfl⟩
theorem HS(a:ByteArray)(c:UInt8)(w:World):Calls prog 289 #[.string a,.string ⟨#[c]⟩] w fun e w'=>e=.returned (.int .i64 (Lib.indexByte a.data.toList c))/\w'=w:=by
 have mixed:=mix
 have t3:prog.underlying 3=some (.int .i64):=by kernel_rfl
 have u3:=run_underlying t3
 have t9:prog.underlying 9=some .string:=by kernel_rfl
 have u9:=run_underlying t9
 go_enter Go.Proofs.Tryz.func289,(show Go.Proofs.Tryz.f289.ntmps=143 from rfl)
 go_wp2
 ·rename_i hc
  go_ret
  refine⟨?_,rfl⟩
  have e:a.toList=[c]:=(eq_of_beq hc).symm
  have e2:a.data.toList=[c]:=by
   obtain⟨⟨l⟩⟩:=a
   simpa using e
  rw[e2]
  simp[Lib.indexByte]
 ·rw[run_callFunc_extern Go.Proofs.Tryz.func235 (by kernel_rfl) (by kernel_rfl) (by kernel_rfl) (e:=Extern.BytealgIndexByte.indexByte) (by kernel_rfl),Lib.run_indexByteString]
  simp only[Result.andThen]
  rw[Oper.upon_value]
  go_wp2
  go_ret
  exact⟨rfl,rfl⟩
def eX(s sub:aH):Option Int:=aL (sub.b.length=1) (some (Lib.indexByte s.b (ix sub.b 0)))
theorem uC{a b:aH}{s:ae}{Q:List AV->ae->Prop}(h:ok (eX a b) fun r=>Q [.int .i64 r] s):FN prog 289 [.str a.b,.str b.b] s Q:=by
 unfold eX at h
 rw[eW,ba]at h
 obtain⟨hl,h⟩:=h
 obtain⟨c,hc⟩:∃c,b.b=[c]:=List.length_eq_one_iff.1 hl
 rw[hc]at h⊢
 intro G w vs h1 h2 h3 h4
 obtain⟨v0,v1,rfl,k0,k1⟩:=Ek h4
 rw[VR.iJ k0,VR.iJ k1]
 refine(HS _ c w).mono fun e w'⟨he,hw⟩=>?_
 subst hw
 exact⟨_,_,s,G,he,h,h1,h3,⟨.int _ _,trivial⟩,aK.refl G w'⟩
theorem uB{a b:aH}{s:ae}{r:Int}(h:eX a b=some r):FE prog 289 [.str a.b,.str b.b] s [.int .i64 r] s:=uC ⟨r,h,rfl,rfl⟩
def fg(c:UInt8):Bool:=decide (48<=c.toNat)&&decide (c.toNat<=57)
theorem Gz{G:Gh}{w:World}{s:ByteArray}{pos:Nat}(h:cE G w):cE (G.xU w.heap.size .none 0) (w.iter s pos)/\aK G w (G.xU w.heap.size .none 0) (w.iter s pos)/\(∀{st:ae},bc G w st->bc (G.xU w.heap.size .none 0) (w.iter s pos) st):=by
 obtain⟨q1,q2,q3⟩:=fU h (.stringIter s pos) .none 0
 refine⟨q1,q2,fun hs=>hs.mono h q2 (fun b hb=>?_) (fun b c j _ hc=>?_)⟩
 ·obtain⟨k1,k2,k3⟩:=q3 b (by rw[hb];simp)
  exact⟨k1.trans hb,k2,k3⟩
 ·obtain⟨k1,k2,k3⟩:=q3 c (by rw[hc];simp)
  exact⟨k1.trans hc,k2,k3⟩
theorem NA(s:ByteArray)(pos:Nat)(h:pos<s.size):s.data.toList.drop pos=(s[pos]'h)::s.data.toList.drop (pos+1):=by
 have hl:pos<s.data.toList.length:=by simpa using h
 rw[List.drop_eq_getElem_cons hl]
 rfl
theorem OQ(s:ByteArray)(w:World){r:Bool}(hr:s.data.toList.all fg=r):Calls prog 219 #[.string s] w fun e w'=>e=.returned (.bool r)/\∃pos,w'=w.iter s pos:=by
 have mixed:=mix
 have t3:prog.underlying 3=some (.int .i64):=by kernel_rfl
 have u3:=run_underlying t3
 have t9:prog.underlying 9=some .string:=by kernel_rfl
 have u9:=run_underlying t9
 go_enter Go.Proofs.Tryz.func219,(show Go.Proofs.Tryz.f219.ntmps=13 from rfl)
 go_wp2
 go_loopw [] (fun w'=>∃pos,w'=w.iter s pos/\(s.data.toList.drop pos).all fg=r) (fun w'=>s.size -w'.iterPos w.heap.size)
 case atStart=>exact⟨0,rfl,hr⟩
 case round=>
  obtain⟨pos,rfl,eD⟩:=hrel
  by_cases hp:pos<s.size
  ·rw[NA s pos hp,List.all_cons]at eD
   by_cases ha:(s[pos]'hp).toNat<128
   ·have hnx:∀ty,(Instr.next (.pointer (some ⟨w.heap.size,0,none⟩)) true ty).run prog (w.iter s pos)=_:=fun ty=>run_next_ascii w s pos ty hp ha
    generalize(s[pos]'hp)=c at hnx eD ha
    go_wp2
    all_goals first
     |(go_ret
       have hc:fg c=false:=by unfold fg;simp;omega
       rw[hc]at eD
       rw[<-eD]
       exact⟨rfl,_,rfl⟩)
     |(refine⟨⟨pos+1,rfl,?_⟩,by omega⟩
       have hc:fg c=true:=by unfold fg;simp;omega
       rw[hc,Bool.true_and]at eD
       exact eD)
   ·have hnx:∀ty,(Instr.next (.pointer (some ⟨w.heap.size,0,none⟩)) true ty).run prog (w.iter s pos)=_:=fun ty=>run_next_any w s pos ty hp
    have hd:=(decode_high s pos hp (by omega)).1
    have hd2:=decode_le s pos
    have hc:fg (s[pos]'hp)=false:=by unfold fg;simp;omega
    rw[hc]at eD
    generalize(Utf8.decode s pos).1=d at hnx hd hd2
    go_wp2
    all_goals first
     |omega
     |(go_ret
       rw[<-eD]
       exact⟨rfl,_,rfl⟩)
     |(exfalso;omega)
  ·have hnx:∀ty,(Instr.next (.pointer (some ⟨w.heap.size,0,none⟩)) true ty).run prog (w.iter s pos)=_:=fun ty=>run_next_end w s pos ty hp
   rw[List.drop_eq_nil_of_le (by simpa using(by omega:s.size<=pos))]at eD
   go_wp2
   go_ret
   rw[<-eD]
   exact⟨rfl,_,rfl⟩
def lK(s:aH):Option Bool:=some (s.b.all fg)
theorem ME{a:aH}{s:ae}{Q:List AV->ae->Prop}(h:ok (lK a) fun r=>Q [.bool r] s):FN prog 219 [.str a.b] s Q:=by
 unfold lK at h
 rw[ba]at h
 intro G w vs h1 h2 h3 h4
 obtain⟨v0,rfl,k0⟩:=Ln h4
 rw[VR.iJ k0]
 refine(OQ ⟨a.b.toArray⟩ w (r:=a.b.all fg) (by simp)).mono fun e w'⟨he,pos,hw⟩=>?_
 subst hw
 obtain⟨q1,q2,q3⟩:=Gz (s:=⟨a.b.toArray⟩) (pos:=pos) h1
 exact⟨_,_,s,_,he,h,q1,q3 h3,⟨.bool _,trivial⟩,q2⟩
theorem DE{a:aH}{s:ae}{r:Bool}(h:lK a=some r):FE prog 219 [.str a.b] s [.bool r] s:=ME ⟨r,h,rfl,rfl⟩
end Go.AB
end
section
set_option maxRecDepth 4000
namespace Go.AB
open Go Go.RowKit
open Go.Proofs.Tryz (prog)
def qX(st:Int×Bool)(c:UInt8):Int×Bool:=
 let over:=st.2||decide (st.1>(2147483647 -((c.toNat:Int) -48)).tdiv 10)
 (if over then st.1 else 10*st.1+((c.toNat:Int) -48),over)
def m9:List UInt8->Int×Bool->Int×Int
 |[],st=>if st.2 then(0,5)else(st.1,0)
 |c::l,st=>if fg c then m9 l (qX st c)else(0,11)
def zE(r:Int×Int)(l:List UInt8)(v4 v5:Value):Prop:=∃(n:Int)(over:Bool),v4=.int .i64 n/\v5=.bool over/\0<=n/\n<=2147483647/\m9 l (n,over)=r
theorem zE.step{r:Int×Int}{c:UInt8}{l:List UInt8}{n m:Int}{over o:Bool}(hd:48<=(c.toNat:Int)/\(c.toNat:Int)<=57)(h0:0<=n)(h1:n<=2147483647)(h:m9 l (qX (n,over) c)=r)
 (ho:o=(over||decide (n>(2147483647 -((c.toNat:Int) -48)).tdiv 10)))(hm:m=if o then n else 10*n+((c.toNat:Int) -48)):zE r l (.int .i64 m) (.bool o):=by
 subst ho;subst hm
 refine⟨_,_,rfl,rfl,?_,?_,h⟩
 ·split<;>omega
 ·split
  ·omega
  ·rename_i hh
   have hh:¬n>(2147483647 -((c.toNat:Int) -48)).tdiv 10:=by simp at hh;omega
   rw[Int.tdiv_eq_ediv_of_nonneg (by omega)]at hh
   omega
theorem JO{c:Int}(hd:48<=c/\c<=57):((((2147483647 -(((c -48+2147483648)% 4294967296 -2147483648+9223372036854775808)% 18446744073709551616 -9223372036854775808)+9223372036854775808)% 18446744073709551616 -9223372036854775808).tdiv 10+9223372036854775808)% 18446744073709551616 -9223372036854775808)=(2147483647 -(c -48)).tdiv 10:=by
 have e1:((c -48+2147483648)% 4294967296 -2147483648+9223372036854775808)% 18446744073709551616 -9223372036854775808=c -48:=by omega
 rw[e1]
 have e2:(2147483647 -(c -48)+9223372036854775808)% 18446744073709551616 -9223372036854775808=2147483647 -(c -48):=by omega
 rw[e2,Int.tdiv_eq_ediv_of_nonneg (by omega)]
 omega
theorem QQ{c n:Int}(hd:48<=c/\c<=57)(h0:0<=n)(h1:n<=2147483647):((10*n+9223372036854775808)% 18446744073709551616 -9223372036854775808+(((c -48+2147483648)% 4294967296 -2147483648+9223372036854775808)% 18446744073709551616 -9223372036854775808)+9223372036854775808)% 18446744073709551616 -9223372036854775808=10*n+(c -48):=by omega
set_option maxHeartbeats 40000000 in
theorem HF(s:ByteArray)(w:World){r:Int×Int}(hr:(if s.data.toList=[]then(0,11)else m9 s.data.toList (0,false))=r):Calls prog 220 #[.string s] w fun e w'=>e=.returned (.tuple #[.int .i64 r.1,.int .i64 r.2])/\(w'=w\/∃pos,w'=w.iter s pos):=by
 have mixed:=mix
 have t3:prog.underlying 3=some (.int .i64):=by kernel_rfl
 have u3:=run_underlying t3
 have t9:prog.underlying 9=some .string:=by kernel_rfl
 have u9:=run_underlying t9
 go_enter Go.Proofs.Tryz.func220,(show Go.Proofs.Tryz.f220.ntmps=36 from rfl)
 go_wp2
 ·have hq:= ‹s.toList.isEmpty=true›
  have hc:s.data.toList=[]:=by
   obtain⟨⟨l⟩⟩:=s
   simpa using hq
  rw[if_pos hc]at hr
  subst hr
  go_ret2
  exact⟨rfl,.inl rfl⟩
 have hq:= ‹s.toList.isEmpty=false›
 have hc:s.data.toList≠[]:=by
  obtain⟨⟨l⟩⟩:=s
  simpa using hq
 rw[if_neg hc]at hr
 go_loopw [4,5] (fun v4 v5 w'=>∃(pos:Nat),w'=w.iter s pos/\zE r (s.data.toList.drop pos) v4 v5) (fun _ _ w'=>s.size -w'.iterPos w.heap.size)
 case atStart=>exact⟨0,rfl,0,false,rfl,rfl,by omega,by omega,hr⟩
 case round=>
  obtain⟨pos,rfl,n,over,rfl,rfl,hn0,hn1,eD⟩:=hrel
  by_cases hp:pos<s.size
  ·rw[NA s pos hp,m9]at eD
   by_cases ha:(s[pos]'hp).toNat<128
   ·have hnx:∀ty,(Instr.next (.pointer (some ⟨w.heap.size,0,none⟩)) true ty).run prog (w.iter s pos)=_:=fun ty=>run_next_ascii w s pos ty hp ha
    generalize(s[pos]'hp)=c at hnx eD ha
    by_cases hdig:48<=(c.toNat:Int)/\(c.toNat:Int)<=57
    ·have hc:fg c=true:=by unfold fg;simp;omega
     rw[if_pos hc]at eD
     cases over<;>go_wp2
     all_goals first
      |(exfalso;omega)
      |(refine⟨⟨_,_,_,_,⟨pos+1,rfl,?_⟩,rfl,rfl,rfl,rfl⟩,by omega⟩
        first
         |exact zE.step hdig hn0 hn1 eD rfl rfl
         |(have hx:= ‹(!decide (_<n))=true›
           simp only[Bool.not_eq_true']at hx
           refine zE.step hdig hn0 hn1 eD (by rw[JO hdig];rfl) ?_
           rw[hx]
           exact QQ hdig hn0 hn1)
         |(have hx:= ‹(!decide (_<n))=false›
           simp only[Bool.not_eq_false']at hx
           refine zE.step hdig hn0 hn1 eD (by rw[JO hdig];rfl) ?_
           rw[hx]
           rfl))
    ·have hc:fg c=false:=by unfold fg;simp;omega
     rw[hc]at eD
     have eD:((0:Int),(11:Int))=r:=eD
     subst eD
     cases over<;>go_wp2
     all_goals first
      |(exfalso;omega)
      |(go_ret2
        exact⟨rfl,.inr ⟨_,rfl⟩⟩)
   ·have hnx:∀ty,(Instr.next (.pointer (some ⟨w.heap.size,0,none⟩)) true ty).run prog (w.iter s pos)=_:=fun ty=>run_next_any w s pos ty hp
    have hd:=(decode_high s pos hp (by omega)).1
    have hd2:=decode_le s pos
    have hc:fg (s[pos]'hp)=false:=by unfold fg;simp;omega
    rw[hc]at eD
    have eD:((0:Int),(11:Int))=r:=eD
    subst eD
    generalize(Utf8.decode s pos).1=d at hnx hd hd2
    cases over<;>go_wp2
    all_goals first
     |(exfalso;omega)
     |(go_ret2
       exact⟨rfl,.inr ⟨_,rfl⟩⟩)
  ·have hnx:∀ty,(Instr.next (.pointer (some ⟨w.heap.size,0,none⟩)) true ty).run prog (w.iter s pos)=_:=fun ty=>run_next_end w s pos ty hp
   rw[List.drop_eq_nil_of_le (by simpa using(by omega:s.size<=pos))]at eD
   cases over<;>go_wp2
   all_goals(go_ret2;subst eD;exact⟨rfl,.inr ⟨_,rfl⟩⟩)
def jN(s:aH):Option (Int×Int):=some (if s.b=[]then(0,11)else m9 s.b (0,false))
theorem Fj{a:aH}{s:ae}{Q:List AV->ae->Prop}(h:ok (jN a) fun r=>Q [.int .i64 r.1,.int .i64 r.2] s):FN prog 220 [.str a.b] s Q:=by
 unfold jN at h
 rw[ba]at h
 intro G w vs h1 h2 h3 h4
 obtain⟨v0,rfl,k0⟩:=Ln h4
 rw[VR.iJ k0]
 refine(HF ⟨a.b.toArray⟩ w (r:=if a.b=[]then(0,11)else m9 a.b (0,false)) (by simp)).mono fun e w'⟨he,hw⟩=>?_
 generalize(if a.b=[]then((0:Int),(11:Int))else m9 a.b (0,false))=r at h he
 have nb:∀(G':Gh)(w':World),qP G' w' [.int .i64 r.1,.int .i64 r.2] (.tuple #[.int .i64 r.1,.int .i64 r.2]):=fun G' w'=>⟨_,rfl,rfl,fun j x y hx hy=>by
  match j,hx,hy with
  |0,hx,hy=>injection hx with hx;injection hy with hy;subst hx;subst hy;exact⟨.int _ _,trivial⟩
  |1,hx,hy=>injection hx with hx;injection hy with hy;subst hx;subst hy;exact⟨.int _ _,trivial⟩
  |_+2,hx,_=>simp at hx⟩
 rcases hw with hw|⟨pos,hw⟩
 ·subst hw
  exact⟨_,_,s,G,he,h,h1,h3,nb _ _,aK.refl G w'⟩
 ·subst hw
  obtain⟨q1,q2,q3⟩:=Gz (s:=⟨a.b.toArray⟩) (pos:=pos) h1
  exact⟨_,_,s,_,he,h,q1,q3 h3,nb _ _,q2⟩
theorem wI{a:aH}{s:ae}{r:Int×Int}(h:jN a=some r):FE prog 220 [.str a.b] s [.int .i64 r.1,.int .i64 r.2] s:=Fj ⟨r,h,rfl,rfl⟩
end Go.AB
end
section
set_option maxRecDepth 4000
namespace Go.AB
open Go
open Go.Proofs.Tryz (prog)
open Go.RowKit
theorem Lh{P:Program}(a:Addr)(cap:Nat)(c:Int)(w:World):(Extern.BytealgIndexByte.indexByte #[.slice (some a) 0 cap,.int .u8 c]).run P w=.ok (.int .i64 (-1)) w:=rfl
theorem pd{v:Value}{cv r:Int}{w:World}(hr:(Extern.BytealgIndexByte.indexByte #[v,.int .u8 cv]).run prog w=.ok (.int .i64 r) w):Calls prog 169 #[v,.int .u8 cv] w fun e w'=>e=.returned (.int .i64 r)/\w'=w:=by
 have mixed:=mix
 go_enter Go.Proofs.Tryz.func169,(show Go.Proofs.Tryz.f169.ntmps=8 from rfl)
 go_wp2
 rw[run_callFunc_extern Go.Proofs.Tryz.func223 (by kernel_rfl) (by kernel_rfl) (by kernel_rfl) (e:=Extern.BytealgIndexByte.indexByte) (by kernel_rfl),hr]
 simp only[Result.andThen]
 rw[Oper.upon_value]
 go_wp2
 go_ret
 exact⟨rfl,rfl⟩
theorem Cc:∀l:List UInt8,Lib.bytesOf (l.map fun c=>(c.toNat:Int))=l
 |[]=>rfl
 |c::l=>by
  have h:=Cc l
  unfold Lib.bytesOf at h⊢
  rw[List.map_cons,List.map_cons,h]
  congr 1
  simp
def ep(s:List UInt8)(c:UInt8):Option Int:=some (Lib.indexByte s c)
theorem xa{a:List UInt8}{c:UInt8}{s:ae}{Q:List AV->ae->Prop}(h:ok (ep a c) fun r=>Q [.int .i64 r] s):FN prog 169 [.sl false 1 a.length (flat a),.int .u8 c.toNat] s Q:=by
 unfold ep at h
 rw[ba]at h
 intro G w vs h1 h2 h3 h4
 obtain⟨v0,v1,rfl,k0,k1⟩:=Ek h4
 rw[VR.dj k1]
 have ec:((c.toNat:Int).toNat).toUInt8=c:=by simp
 have fin:∀(e:Ending)(w':World)(r:Int),r=Lib.indexByte a c->e=.returned (.int .i64 r)/\w'=w->∃v rs s' G',e=.returned v/\Q rs s'/\cE G' w'/\bc G' w' s'/\qP G' w' rs v/\aK G w G' w':=by
  rintro e w' r hr ⟨he,hw⟩
  subst hw;subst hr
  exact⟨_,_,s,G,he,h,h1,h3,⟨.int _ _,trivial⟩,aK.refl G w'⟩
 have e0:∀b:List UInt8,a=[]->Lib.indexByte a c=-1:=fun _ e=>by subst e;rfl
 rcases VR.ik k0 with⟨(e|⟨_,ad,cap,e⟩),h0,_⟩|⟨b,off,cap,e,hcl,hRb,fL,hat⟩
 ·subst e
  have ha:a=[]:=List.eq_nil_of_length_eq_zero h0
  exact(pd (Lib.run_indexByteNil w 0 0 _)).mono fun e w' hh=>fin e w' _ (e0 a ha).symm hh
 ·subst e
  have ha:a=[]:=List.eq_nil_of_length_eq_zero h0
  exact(pd (Lh ad cap _ w)).mono fun e w' hh=>fin e w' _ (e0 a ha).symm hh
 ·subst e
  obtain⟨u,u1,u2,_⟩:=hat
  have nL:∀i,i<a.length->w.cell? ⟨b,off+i,none⟩=some (.int .u8 ((a.map fun c=>(c.toNat:Int)).getD i 0)):=by
   intro i hi
   have hfj:(flat a)[i]? =some (.int .u8 (a[i]).toNat):=by
    have hm:∀l:List UInt8,flat l=l.map fun c=>AV.int .u8 c.toNat:=fun l=>by
     induction l with
     |nil=>rfl
     |cons c l ih=>rw[List.map_cons,<-ih];rfl
    rw[hm,List.getElem?_map,List.getElem?_eq_getElem hi];rfl
   rw[u1 i _ hfj,VR.dj (u2 i _ hfj)]
   simp[List.getD_eq_getElem?_getD,hi]
  refine(pd (Lib.run_indexByteSlice w b off a.length cap (a.map fun c=>(c.toNat:Int)) (by simp) nL _)).mono fun e w' hh=>fin e w' _ ?_ hh
  rw[Cc,ec]
theorem w9{a:List UInt8}{c:UInt8}{s:ae}{r:Int}(h:ep a c=some r):FE prog 169 [.sl false 1 a.length (flat a),.int .u8 c.toNat] s [.int .i64 r] s:=xa ⟨r,h,rfl,rfl⟩
end Go.AB
end
section
namespace Go.AB
open Go
@[go_sem]theorem aeF(l:List UInt8)(hi:Int):(l.drop 1).take (hi -1).toNat=part l 1 hi:=rfl
def Wi(pre cs post:List AV):List AV:=pre++cs++post
@[go_sem]theorem agn(c:AV)(cs r:List AV):Wi [] (c::cs) r=c::Wi [] cs r:=rfl
@[go_sem]theorem ahw(r:List AV):Wi [] [] r=r:=rfl
@[go_sem]theorem ago(p cs r:List AV)(a:AV):Wi p cs (a::r)=Wi p (cs++[a]) r:=by simp[Wi]
theorem LH(p cs r:List AV):(Wi p cs r).length=p.length+cs.length+r.length:=by simp[Wi];omega
@[go_sem]theorem ai8(p cs r:List AV)(k n:Nat)(h:k+n<=cs.length):(p.length+k+n<=(Wi p cs r).length)=True:=by rw[LH];exact eq_true (by omega)
@[go_sem]theorem ahv(p cs r:List AV)(n:Nat)(h:n<=cs.length):(p.length+n<=(Wi p cs r).length)=True:=by rw[LH];exact eq_true (by omega)
@[go_sem]theorem abm(p cs r:List AV)(k n:Nat)(h:k+n<=cs.length):AB.sub (Wi p cs r) (p.length+k) n=AB.sub cs k n:=by
  unfold AB.sub Wi
  rw[List.append_assoc,<-List.drop_drop,List.drop_left,List.drop_append_of_le_length (by omega),List.take_append_of_le_length (by rw[List.length_drop];omega)]
@[go_sem]theorem ahf(p cs r:List AV)(n:Nat)(h:n<=cs.length):AB.sub (Wi p cs r) p.length n=AB.sub cs 0 n:=abm p cs r 0 n (by omega)
theorem AA(p cs r:List AV)(k:Nat)(news:List AV)(h:k+news.length<=cs.length):setAt (Wi p cs r) (p.length+k) news=Wi p (setAt cs k news) r:=by
 unfold setAt Wi
 have e1:(p++cs++r).take (p.length+k)=p++cs.take k:=by rw[List.append_assoc,List.take_append,List.take_of_length_le (by omega),Nat.add_sub_cancel_left,List.take_append_of_le_length (by omega)]
 have e2:(p++cs++r).drop (p.length+k+news.length)=cs.drop (k+news.length)++r:=by rw[List.append_assoc,Nat.add_assoc,<-List.drop_drop,List.drop_left,List.drop_append_of_le_length h]
 rw[e1,e2]
 simp[List.append_assoc]
@[go_sem]theorem Tl(p cs r:List AV)(k:Nat)(news:List AV)(h:k+news.length<=cs.length):setAt (Wi p cs r) (p.length+k) news=Wi p (setAt cs k news) r:=AA p cs r k news h
theorem HN(p cs r:List AV)(k:Nat)(h:k<cs.length):(Wi p cs r)[p.length+k]? =cs[k]? :=by
 unfold Wi
 rw[List.append_assoc,List.getElem?_append_right (by omega),Nat.add_sub_cancel_left,List.getElem?_append_left h]
@[go_sem]theorem Zj(p cs r:List AV)(k:Nat)(h:k<cs.length):(Wi p cs r)[p.length+k]? =cs[k]? :=HN p cs r k h
@[go_sem]theorem UX(p cs r:List AV)(h:0<cs.length):(Wi p cs r)[p.length]? =cs[0]? :=HN p cs r 0 h
theorem Qd(p cs r:List AV)(k:Nat)(K:List AV->AV->Prop)(h:k<cs.length):j9 (p.length+k) (Wi p cs r) K=j9 k cs fun cs' a=>K (Wi p cs' r) a:=by
 unfold j9
 rw[HN p cs r k h]
 cases cs[k]? with
 |none=>rfl
 |some a=>
  cases a<;>try rfl
  ·rename_i o sz n ds
   show K (setAt (Wi p cs r) (p.length+k) [.sl false sz n ds]) _=K (Wi p (setAt cs k [.sl false sz n ds]) r) _
   rw[AA p cs r k [.sl false sz n ds] (show k+1<=cs.length by omega)]
  ·rename_i tb m es
   show K (setAt (Wi p cs r) (p.length+k) [.sl false 1 m es]) _=K (Wi p (setAt cs k [.sl false 1 m es]) r) _
   rw[AA p cs r k [.sl false 1 m es] (show k+1<=cs.length by omega)]
@[go_sem]theorem Lp(p cs r:List AV)(k:Nat)(K:List AV->AV->Prop)(h:k<cs.length):j9 (p.length+k) (Wi p cs r) K=j9 k cs fun cs' a=>K (Wi p cs' r) a:=Qd p cs r k K h
theorem IY{k:IntKind}{a b:Int}(h:0<=a):0<=jA k a b/\jA k a b<=a:=by
 unfold jA
 have hp:(0:Int)<2^(min b.toNat k.bits):=Int.pow_pos (by decide)
 rw[Int.fdiv_eq_ediv_of_nonneg _ (Int.le_of_lt hp)]
 exact⟨Int.ediv_nonneg h (Int.le_of_lt hp),Int.ediv_le_self _ h⟩
theorem TL{n:Int}(h0:0<=n)(h1:n<256):((gX n).toNat:Int)=n:=by
 unfold gX
 have e:IntKind.u8.wrap n=n:=by
  show n.emod 256=n
  exact Int.emod_eq_of_lt h0 h1
 rw[e]
 show((UInt8.ofNat n.toNat).toNat:Int)=n
 rw[UInt8.toNat_ofNat']
 omega
theorem WM{n:Int}(h0:0<=n)(h1:n<4294967296):((dw n).toNat:Int)=n:=by
 unfold dw
 have e:IntKind.u32.wrap n=n:=by
  show n.emod 4294967296=n
  exact Int.emod_eq_of_lt h0 h1
 rw[e]
 show((UInt32.ofNat n.toNat).toNat:Int)=n
 rw[UInt32.toNat_ofNat']
 omega
@[go_sem]theorem akl(x:UInt8)(k:Int):((gX (jA .u8 (x.toNat:Int) k)).toNat:Int)=jA .u8 (x.toNat:Int) k:=by
  have:=IY (k:=.u8) (a:=(x.toNat:Int)) (b:=k) (by omega)
  have:=x.toNat_lt
  exact TL (by omega) (by omega)
@[go_sem]theorem afU(k:Int):((gX (jA .u8 128 k)).toNat:Int)=jA .u8 128 k:=by
  have:=IY (k:=.u8) (a:=128) (b:=k) (by omega)
  exact TL (by omega) (by omega)
@[go_sem]theorem ajF(x:UInt32)(k:Int):((dw (jA .u32 (x.toNat:Int) k)).toNat:Int)=jA .u32 (x.toNat:Int) k:=by
  have:=IY (k:=.u32) (a:=(x.toNat:Int)) (b:=k) (by omega)
  have:=x.toNat_lt
  exact WM (by omega) (by omega)
attribute[go_sem] Nat.add_zero
@[go_sem]theorem cT{α:Type}(l:List α)(hi:Int):part l 0 hi=l.take hi.toNat:=by
  unfold part
  rw[Int.toNat_zero,List.drop_zero,Int.sub_zero]
@[go_sem]theorem aex(n:Nat):((6:Int)<=((n+6:Nat):Int))=True:=eq_true (by omega)
@[go_sem]theorem ahT(l:List UInt8):l.getD 0 0=ix l 0:=rfl
@[go_sem]theorem pj:((0:Int)<=0)=True:=eq_true (by decide)
@[go_sem]theorem ajQ:((0:Int)<=1)=True:=eq_true (by decide)
@[go_sem]theorem ajR:((0:Int)<=2)=True:=eq_true (by decide)
@[go_sem]theorem ajS:((0:Int)<=3)=True:=eq_true (by decide)
@[go_sem]theorem ajT:((0:Int)<=4)=True:=eq_true (by decide)
@[go_sem]theorem ajU:((0:Int)<=6)=True:=eq_true (by decide)
@[go_sem]theorem ajV:((0:Int)<=8)=True:=eq_true (by decide)
@[go_sem]theorem ajm:((0:Int)<=16)=True:=eq_true (by decide)
@[go_sem]theorem ajn:((0:Int)<=24)=True:=eq_true (by decide)
structure wg where
 used:Bool
 own:Bool
 buf:aH
def wg.zero:wg:=⟨false,true,⟨[]⟩⟩
def dD(T B o:Nat)(b:wg):AV:=bif b.used then .ref B o else .m6 T
def de(b:wg):AV:=bif b.own then .bb 5 b.buf.b.length (flat b.buf.b)else .sl false 1 b.buf.b.length (flat b.buf.b)
@[go_sem]theorem abB(T B o:Nat):dD T B o wg.zero=.m6 T:=rfl
@[go_sem]theorem abC:de wg.zero=.bb 5 0 []:=rfl
@[go_sem]theorem adF(ne:Bool)(vs:List AV):JX ne (.iP vs)=.no:=rfl
structure OO where
instance:bp OO:=⟨1,fun _=>[.kQ],.mk,by decide,fun _=>rfl,fun _=>rfl⟩
end Go.AB
end
section
set_option maxRecDepth 16000
namespace Go.AB
open Go
open Go.Proofs.Tryz (prog)
attribute[-go_sem] Nat.add_zero pj cT
def lW:IC:=dec 0x10a0d3bf9156c9aa57d1bf572245e4b8c75711c5f036e78f2343ee194a5b5792d8d6ca909b46281373511afada0a71087e
theorem tF:aS prog 144 20 [] lW=true:=by kernel_rfl
def lV:IC:=dec 0x7259852fe6bdb49662001ace6fff0792644b033af3870617247013bb33ad30c2db2d46b2934ab9241671083fa
theorem tE:aS prog 105 17 [⟨4,true,none⟩] lV=true:=by kernel_rfl
def kF:IC:=dec 0xb66a9800ff499d3d01c98d62e5754b5aa8e39fe09f65da1540ecc66c3d10a87ade505ef25099b10d4c3cc00844b
theorem rh:aS prog 101 19 [⟨4,true,none⟩,⟨5,true,none⟩] kF=true:=by kernel_rfl
theorem aeV:ad9 prog 188:=fun x w=>by
 rw[run_callFunc_extern Go.Proofs.Tryz.func188 (by kernel_rfl) (by kernel_rfl) (by kernel_rfl) (e:=Extern.AbiNoEscape.same) (by kernel_rfl)]
 rfl
theorem Tm{s:ae}{B:Nat}{o:SO}(h:s B=some o):s.set B o=s:=by
 funext i
 unfold ae.set
 split
 ·rename_i e;subst e;exact h.symm
 ·rfl
theorem yl{b:wg}{B T o:Nat}{pre post:List AV}{s:ae}{Q:List AV->ae->Prop}(hB:s B=some (.cells (Wi pre [dD T B o b,de b] post)))(eB:pre.length=o)
 (lB:Dy prog T (pre.length+2+post.length) o 109=true)(hq:Q [] (s.set B (.cells (Wi pre [.ref B o,de b] post)))):FN prog 144 [.ref B o] s Q:=by
 subst eB
 obtain⟨u,ow,bf⟩:=b
 have hl:(Wi pre [dD T B pre.length ⟨u,ow,bf⟩,de ⟨u,ow,bf⟩] post).length=pre.length+2+post.length:=by rw[LH];rfl
 have ha:(Wi pre [dD T B pre.length ⟨u,ow,bf⟩,de ⟨u,ow,bf⟩] post)[pre.length]? =some (dD T B pre.length ⟨u,ow,bf⟩):=by rw[UX _ _ _ (by simp)];rfl
 refine FO tF rfl rfl ?_
 rw[lW]
 conv in dec _=>reduce
 have hB':=hB
 cases u with
 |true=>
  have e:dD T B pre.length ⟨true,ow,bf⟩=.ref B pre.length:=rfl
  rw[e]at hB' hB
  rw[Tm hB]at hq
  simp -implicitDefEqProofs only[go_sem,Nat.reduceBEq,Nat.reduceAdd,Nat.reduceMul,Nat.reduceLeDiff,Nat.reduceEqDiff,Nat.reduceBNe,UInt8.reduceToNat,UInt32.reduceToNat,hB']
  exact⟨fun h=>h.elim,fun _ _=>hq⟩
 |false=>
  have e:dD T B pre.length ⟨false,ow,bf⟩=.m6 T:=rfl
  rw[e]at hB' ha hl
  simp -implicitDefEqProofs only[go_sem,Nat.reduceBEq,Nat.reduceAdd,Nat.reduceMul,Nat.reduceLeDiff,Nat.reduceEqDiff,Nat.reduceBNe,UInt8.reduceToNat,UInt32.reduceToNat,hB',set_set,fH]
  refine⟨fun _=>⟨by rw[hl];omega,aeV,T,ha,by rw[hl];exact lB,hq⟩,fun h=>(by cases h)⟩
def aE(b:wg)(c:UInt8):Option (OO×wg):=
 aL (b.own=true)<|
 aL (b.buf.b.length+1<=room)<|
 some (OO.mk,⟨true,true,⟨b.buf.b++[c]⟩⟩)
theorem bS{b_0:wg}{c_1:UInt8}{B0:Nat}{preB0 postB0:List AV}{oB0 TB0:Nat}{s:ae}{Q:List AV->ae->Prop}(hB0:s B0=some (.cells (Wi preB0 [dD TB0 B0 oB0 b_0,de b_0] postB0)))(eB0:preB0.length=oB0)(lB0:Dy prog TB0 (preB0.length+2+postB0.length) oB0 109=true):
 ok (aE b_0 c_1) (fun r=>Q [.kQ] (s.set B0 (.cells (Wi preB0 [dD TB0 B0 oB0 r.2,de r.2] postB0))))->FN prog 105 [.ref B0 oB0,.int .u8 c_1.toNat] s Q:=by
 unfold aE
 rintro⟨r,h1,h2⟩
 unfold aL at h1
 split at h1<;>try(cases h1;done)
 rename_i how
 split at h1<;>try(cases h1;done)
 rename_i hrm
 injection h1 with h1
 subst h1
 subst eB0
 obtain⟨u,ow,bf⟩:=b_0
 obtain rfl:ow=true:=how
 refine FO tE rfl rfl ?_
 rw[lV]
 conv in dec _=>reduce
 simp -implicitDefEqProofs only[go_sem,Nat.reduceBEq,Nat.reduceAdd,Nat.reduceMul,Nat.reduceLeDiff,Nat.reduceEqDiff,Nat.reduceBNe,UInt8.reduceToNat,UInt32.reduceToNat]
 refine yl hB0 rfl lB0 ?_
 have e1:de ⟨u,true,bf⟩=.bb 5 bf.b.length (flat bf.b):=rfl
 rw[e1]
 simp -implicitDefEqProofs only[go_sem,Nat.reduceBEq,Nat.reduceAdd,Nat.reduceMul,Nat.reduceLeDiff,Nat.reduceEqDiff,Nat.reduceBNe,UInt8.reduceToNat,UInt32.reduceToNat,fH,set_set]
 rw[Lp _ _ _ _ _ (by simp)]
 simp -implicitDefEqProofs only[go_sem,Nat.reduceBEq,Nat.reduceAdd,Nat.reduceMul,Nat.reduceLeDiff,Nat.reduceEqDiff,Nat.reduceBNe,UInt8.reduceToNat,UInt32.reduceToNat,fH,set_set]
 have e2:de ⟨true,true,⟨bf.b++[c_1]⟩⟩=.bb 5 (bf.b.length+1) (flat bf.b++[.int .u8 c_1.toNat]):=by
  show AV.bb 5 (bf.b++[c_1]).length (flat (bf.b++[c_1]))=_
  rw[ew,List.length_append];rfl
 refine⟨by rw[Nat.mul_one];exact hrm,?_⟩
 have h3:Q [.kQ] (s.set B0 (.cells (Wi preB0 [.ref B0 preB0.length,de ⟨true,true,⟨bf.b++[c_1]⟩⟩] postB0))):=h2
 rw[e2]at h3
 exact h3
def dQ(b:wg)(x:aH):Option (Int×OO×wg):=
 aL (b.own=true)<|
 aL (b.buf.b.length+x.b.length<=room)<|
 some ((x.b.length:Int),OO.mk,⟨true,true,⟨b.buf.b++x.b⟩⟩)
theorem lJ{b_0:wg}{s_1:aH}{B0:Nat}{preB0 postB0:List AV}{oB0 TB0:Nat}{s:ae}{Q:List AV->ae->Prop}(hB0:s B0=some (.cells (Wi preB0 [dD TB0 B0 oB0 b_0,de b_0] postB0)))(eB0:preB0.length=oB0)(lB0:Dy prog TB0 (preB0.length+2+postB0.length) oB0 109=true):
 ok (dQ b_0 s_1) (fun r=>Q [.int .i64 r.1,.kQ] (s.set B0 (.cells (Wi preB0 [dD TB0 B0 oB0 r.2.2,de r.2.2] postB0))))->FN prog 101 [.ref B0 oB0,.str s_1.b] s Q:=by
 unfold dQ
 rintro⟨r,h1,h2⟩
 unfold aL at h1
 split at h1<;>try(cases h1;done)
 rename_i how
 split at h1<;>try(cases h1;done)
 rename_i hrm
 injection h1 with h1
 subst h1
 subst eB0
 obtain⟨u,ow,bf⟩:=b_0
 obtain rfl:ow=true:=how
 refine FO rh rfl rfl ?_
 rw[kF]
 conv in dec _=>reduce
 simp -implicitDefEqProofs only[go_sem,Nat.reduceBEq,Nat.reduceAdd,Nat.reduceMul,Nat.reduceLeDiff,Nat.reduceEqDiff,Nat.reduceBNe,UInt8.reduceToNat,UInt32.reduceToNat]
 refine yl hB0 rfl lB0 ?_
 have e1:de ⟨u,true,bf⟩=.bb 5 bf.b.length (flat bf.b):=rfl
 rw[e1]
 simp -implicitDefEqProofs only[go_sem,Nat.reduceBEq,Nat.reduceAdd,Nat.reduceMul,Nat.reduceLeDiff,Nat.reduceEqDiff,Nat.reduceBNe,UInt8.reduceToNat,UInt32.reduceToNat,fH,set_set]
 rw[Lp _ _ _ _ _ (by simp)]
 simp -implicitDefEqProofs only[go_sem,Nat.reduceBEq,Nat.reduceAdd,Nat.reduceMul,Nat.reduceLeDiff,Nat.reduceEqDiff,Nat.reduceBNe,UInt8.reduceToNat,UInt32.reduceToNat,fH,set_set]
 have e2:de ⟨true,true,⟨bf.b++s_1.b⟩⟩=.bb 5 (bf.b.length+s_1.b.length) (flat bf.b++flat s_1.b):=by
  show AV.bb 5 (bf.b++s_1.b).length (flat (bf.b++s_1.b))=_
  rw[ew,List.length_append]
 refine⟨by rw[Nat.mul_one];exact hrm,?_⟩
 have h3:Q [.int .i64 s_1.b.length,.kQ] (s.set B0 (.cells (Wi preB0 [.ref B0 preB0.length,de ⟨true,true,⟨bf.b++s_1.b⟩⟩] postB0))):=h2
 rw[e2]at h3
 exact h3
def bk(b:wg):Option (aH×wg):=aL (b.own=true/\b.buf.b.length<=room)<|some (b.buf,⟨b.used,false,b.buf⟩)
set_option maxHeartbeats 2000000 in
set_option maxRecDepth 100000 in
theorem Jq{w:World}{B o:Nat}(hc:w.cell? ⟨B,o+1,none⟩=some (.slice none 0 0)):
 Calls prog 62 #[.pointer (some ⟨B,o,none⟩)] w fun e w'=>e=.returned (.string ⟨#[]⟩)/\w'=w.drew:=by
 have hUS:(Builtin.unsafeString_ #[165,3] 9 #[.pointer none,.int .i64 0]).run prog w.drew=.ok (.string .empty) w.drew:=Lib.run_unsafeString_none _ _ _ _ none
 have hSD:(Builtin.unsafeSliceData_ #[22] 165 #[.slice none 0 0]).run prog w.drew=.ok (.pointer none) w.drew:=Lib.run_unsafeSliceData_nil _ _ _ _ _
 have c1:w.drew.cell? ⟨B,o+1,none⟩=some (.slice none 0 0):=hc
 have mixed:=mix
 go_enter Go.Proofs.Tryz.func62,(show Go.Proofs.Tryz.f62.ntmps=14 from rfl)
 go_wp2
 go_region
 all_goals(go_wp2;go_ret;exact⟨rfl,rfl⟩)
set_option maxHeartbeats 2000000 in
set_option maxRecDepth 100000 in
theorem Jr{w:World}{B o g cap:Nat}{cur:Array Value}{fz:Nat×Nat}{l:List UInt8}(hc:w.cell? ⟨B,o+1,none⟩=some (.slice (some ⟨g,0,none⟩) l.length cap))(hg:w.heap[g]? =some (.cells cur 5 fz))(h0:l≠[])(fL:cap≠0)(hsz:l.length<=cur.size)(hm:l.length<=9223372036854775807)
 (fB:∀(j:Nat)(x:UInt8),l[j]? =some x->w.cell? ⟨g,j,none⟩=some (.int .u8 x.toNat)):
 Calls prog 62 #[.pointer (some ⟨B,o,none⟩)] w fun e w'=>e=.returned (.string ⟨l.toArray⟩)/\w'=w.drew.freeze ⟨g,0,none⟩ l.length:=by
 have hUS:(Builtin.unsafeString_ #[165,3] 9 #[.pointer (some ⟨g,0,none⟩),.int .i64 l.length]).run prog w.drew=.ok (.string ⟨l.toArray⟩) (w.drew.freeze ⟨g,0,none⟩ l.length):=
  Lib.run_unsafeString_row w.drew 165 3 9 5 (by kernel_rfl) (by kernel_rfl) g cur.size (by have hg':w.drew.heap[g]? =some (.cells cur 5 fz):=hg;simp[World.shape?,hg']) l h0 hsz hm (fun j x hj=>by
   have:=fB j x hj
   simp only[Addr.add,Nat.zero_add]
   split
   ·rename_i e;subst e;exact this
   ·exact this)
 have hSD:(Builtin.unsafeSliceData_ #[22] 165 #[.slice (some ⟨g,0,none⟩) l.length cap]).run prog w.drew=.ok (.pointer (some ⟨g,0,none⟩)) w.drew:=Lib.run_unsafeSliceData_row _ _ _ _ _ _ fL
 have c1:w.drew.cell? ⟨B,o+1,none⟩=some (.slice (some ⟨g,0,none⟩) l.length cap):=hc
 have mixed:=mix
 clear fB hc hm hsz fL
 go_enter Go.Proofs.Tryz.func62,(show Go.Proofs.Tryz.f62.ntmps=14 from rfl)
 go_wp2
 go_region
 all_goals(go_wp2;go_ret;exact⟨rfl,rfl⟩)
end Go.AB
end
section
set_option maxRecDepth 4000
namespace Go.AB
open Go
open Go.Proofs.Tryz (prog)
theorem AR{w:World}{g n:Nat}{c:Array Value}{t:TypeId}{fz:Nat×Nat}(hg:w.heap[g]? =some (.cells c t fz)):
 (∀b,b≠g->(w.freeze ⟨g,0,none⟩ n).heap[b]? =w.heap[b]?)/\(w.freeze ⟨g,0,none⟩ n).heap.size=w.heap.size/\∃fz',(w.freeze ⟨g,0,none⟩ n).heap[g]? =some (.cells c t fz'):=by
 unfold World.freeze
 split
 ·exact⟨fun _ _=>rfl,rfl,fz,hg⟩
 ·refine⟨fun b hb=>?_,by simp,?_⟩
  ·simp only[Array.getElem?_modify]
   rw[if_neg (by omega)]
  ·simp only[Array.getElem?_modify,if_true,hg,Option.map_some]
   exact⟨_,rfl⟩
theorem J7{w:World}{g n:Nat}{c:Array Value}{t:TypeId}{fz:Nat×Nat}(hg:w.heap[g]? =some (.cells c t fz))(b k:Nat):(w.freeze ⟨g,0,none⟩ n).cell? ⟨b,k,none⟩=w.cell? ⟨b,k,none⟩:=by
 obtain⟨h1,_,fz',h2⟩:=AR (n:=n) hg
 by_cases hb:b=g
 ·subst hb
  rw[cell_of_row _ h2,cell_of_row _ hg]
 ·exact World.cell?_of_block (h1 b hb)
theorem Tx{G:Gh}{w:World}{s:ae}{B o n:Nat}{cs:List AV}{ds:List AV}(hg:cE G w)(hs:bc G w s)(hB:s B=some (.cells cs))(ho:cs[o]? =some (.bb 5 n ds)):
 bc (G.gp (.cell B o) .frame) w (s.set B (.cells (setAt cs o [.sl false 1 n ds])))/\cE (G.gp (.cell B o) .frame) w/\aK G w (G.gp (.cell B o) .frame) w:=by
 have hne:∀b,G.O b≠.cell B o->(G.gp (.cell B o) .frame).O b=G.O b:=fun b hb=>by simp[hb]
 have jt:cE (G.gp (.cell B o) .frame) w:=⟨fun b hb=>by rw[hne b (by rw[hg.k7 b hb];simp),hg.k7 b hb],hg.mn⟩
 have cz:aK G w (G.gp (.cell B o) .frame) w:=⟨rfl,rfl,rfl,Nat.le_refl _,Nat.le_refl _,fun _ _=>Nat.le_refl _,fun _ _ _ _=>rfl,fun _ _ _=>rfl,fun b _ hb=>⟨by rw[hne b (by rw[hb];simp),hb],rfl⟩,fun b _ hb=>⟨by rw[hne b (by rw[hb];simp),hb],rfl⟩⟩
 refine⟨?_,jt,cz⟩
 obtain⟨q2,q3,c,t,q4,q5,q6⟩:=hs B _ hB
 intro b' ob hb'
 unfold ae.set at hb'
 by_cases hbg:b'=B
 ·rw[if_pos hbg]at hb';injection hb' with hb';subst hb';subst hbg
  exact⟨by rw[hne b' (by rw[q2];simp),q2],q3,c,t,q4,dq.take (av:=.bb 5 n ds) q5 ho,AK.setAt q6 (by intro z hz;rw[List.mem_singleton]at hz;subst hz;rfl) o⟩
 ·rw[if_neg hbg]at hb'
  obtain⟨r1,r2,r3⟩:=hs b' ob hb'
  refine⟨by rw[hne b' (by rw[r1];simp),r1],r2,?_⟩
  cases ob with
  |cells cs'=>
   obtain⟨c0,t0,r4,r5,r6⟩:=r3
   exact⟨c0,t0,r4,r5.mono (fun _ _ hv=>hv) (fun b'' j vH=>⟨by rw[hne b'' (by rw[vH];intro e;injection e with e _;exact hbg e),vH],rfl,rfl⟩),r6⟩
  |map es=>exact r3
theorem AQ:∀l:List UInt8,flat l=l.map fun c=>AV.int .u8 c.toNat
 |[]=>rfl
 |c::l=>by rw[List.map_cons,<-AQ l];rfl
theorem J4(l:List UInt8)(j:Nat):(flat l)[j]? =l[j]?.map fun c=>AV.int .u8 c.toNat:=by rw[AQ,List.getElem?_map]
theorem ez{b_0:wg}{B0:Nat}{preB0 postB0:List AV}{oB0 TB0:Nat}{s:ae}{Q:List AV->ae->Prop}(hB0:s B0=some (.cells (Wi preB0 [dD TB0 B0 oB0 b_0,de b_0] postB0)))(eB0:preB0.length=oB0)(lB0:Dy prog TB0 (preB0.length+2+postB0.length) oB0 109=true):
 ok (bk b_0) (fun r=>Q [.str r.1.b] (s.set B0 (.cells (Wi preB0 [dD TB0 B0 oB0 r.2,de r.2] postB0))))->FN prog 62 [.ref B0 oB0] s Q:=by
 unfold bk
 rintro⟨r,h1,h2⟩
 unfold aL at h1
 split at h1<;>try(cases h1;done)
 rename_i how
 injection h1 with h1
 subst h1
 subst eB0
 obtain⟨u,ow,⟨l⟩⟩:=b_0
 obtain⟨how,cf⟩:=how
 obtain rfl:ow=true:=how
 have cf:l.length<=room:=cf
 intro G w vs hg Rv hs ha
 have hvs:vs= #[.pointer (some ⟨B0,preB0.length,none⟩)]:=by
  obtain⟨hl,hr⟩:=ha
  obtain⟨vl⟩:=vs
  match vl,hl with
  |[v],_=>rw[VR.fZ (hr 0 _ v rfl rfl)]
  |[],hl=>simp at hl
  |_::_::_,hl=>simp at hl
 subst hvs
 let A:=dD TB0 B0 preB0.length ⟨u,true,⟨l⟩⟩
 have hbb:(Wi preB0 [A,de ⟨u,true,⟨l⟩⟩] postB0)[preB0.length+1]? =some (.bb 5 l.length (flat l)):=by rw[Zj _ _ _ _ (by simp)];rfl
 have E0:setAt (Wi preB0 [A,de ⟨u,true,⟨l⟩⟩] postB0) (preB0.length+1) [.sl false 1 l.length (flat l)]=Wi preB0 [A,.sl false 1 l.length (flat l)] postB0:=by rw[Tl _ _ _ _ _ (by simp)];rfl
 obtain⟨k1,k2,k3⟩:=Tx hg hs hB0 hbb
 rw[E0]at k1
 have hq:Q [.str l] (s.set B0 (.cells (Wi preB0 [A,.sl false 1 l.length (flat l)] postB0))):=h2
 obtain⟨q2,q3,c,t,q4,q5,q6⟩:=hs B0 _ hB0
 have hlt:preB0.length+1<c.size:=by rw[q5.1];exact(List.getElem?_eq_some_iff.1 hbb).1
 have fB:=Array.getElem?_eq_getElem hlt
 obtain⟨hv,hw⟩:=q5.2 _ _ _ hbb fB
 have hwc:w.cell? ⟨B0,preB0.length+1,none⟩=some c[preB0.length+1]:=by rw[cell_of_row w q4,fB]
 generalize c[preB0.length+1]=v at hv hw hwc
 cases l with
 |nil=>
  obtain rfl:=VR.Vn hv
  refine(Jq hwc).mono fun e w'⟨he,hw'⟩=>?_
  subst hw'
  refine⟨_,_,_,G.gp (.cell B0 (preB0.length+1)) .frame,he,hq,⟨k2.k7,k2.mn⟩,?_,⟨.str _,trivial⟩,k3.trans (aK.drew _ w)⟩
  exact k1.mono k2 (aK.drew _ w) (fun _ hb=>⟨hb,rfl,rfl⟩) (fun _ _ _ _ hc=>⟨hc,rfl,rfl⟩)
 |cons x l'=>
  generalize hL:x::l'=L at*
  have hL0:L≠[]:=by rw[<-hL];simp
  have jg:0<L.length:=by rw[<-hL];simp
  rcases VR.ik (VR.RF hv)with⟨_,h0,_⟩|⟨g,off,cap,rfl,hcl,hRb,fL,hat⟩
  ·omega
  ·obtain⟨b',aay,cur,fz,e1,e2,e3,e4,e5,e6⟩:=hw _ _ _ rfl (.inr jg)
   injection e1 with e1;injection e1 with e1 e1' _
   subst e1;subst e1'
   obtain rfl:off=0:=e6.2.2.1
   have nL:∀(j:Nat)(y:UInt8),L[j]? =some y->w.cell? ⟨g,j,none⟩=some (.int .u8 y.toNat):=by
    intro j y hj
    obtain⟨uu,u1,u2,_⟩:=hat
    have hfj:(flat L)[j]? =some (.int .u8 y.toNat):=by rw[J4,hj];rfl
    have:=u1 j _ hfj
    rw[Nat.zero_add]at this
    rw[this,VR.dj (u2 j _ hfj)]
   refine(Jr hwc e4 hL0 (by omega) (by rw[e5];omega) (by have:room=140737488355328:=rfl;omega) nL).mono fun e w'⟨he,hw'⟩=>?_
   subst hw'
   obtain⟨f1,f2,fz',f3⟩:=AR (w:=w.drew) (n:=L.length) e4
   have hgO:G.O g=.cell B0 (preB0.length+1):=e2
   let G':=G.gp (.cell B0 (preB0.length+1)) .frame
   have adN:G'.O g=.frame:=by simp[G',hgO]
   have hfc:=J7 (w:=w.drew) (n:=L.length) e4
   have hne:∀b,G.O b≠.cell B0 (preB0.length+1)->G'.O b=G.O b:=fun b hb=>by simp[G',hb]
   have cz:aK G w G' (w.drew.freeze ⟨g,0,none⟩ L.length):=by
    refine⟨?_,?_,?_,?_,?_,fun _ _=>Nat.le_refl _,fun b k _ _=>hfc b k,fun b _ hb=>?_,fun b _ hb=>⟨?_,rfl⟩,fun b _ hb=>⟨?_,rfl⟩⟩
    ·unfold World.freeze;split<;>rfl
    ·unfold World.freeze;split<;>rfl
    ·unfold World.freeze;split<;>rfl
    ·unfold World.freeze;split<;>exact Nat.le_succ _
    ·rw[f2];exact Nat.le_refl _
    ·exact f1 b (fun e=>by subst e;rw[hgO]at hb;rcases hb with hb|hb<;>cases hb)
    ·rw[hne b (by rw[hb];simp),hb]
    ·rw[hne b (by rw[hb];simp),hb]
   have hvr:∀a v,VR w G'.R a v->VR (w.drew.freeze ⟨g,0,none⟩ L.length) G'.R a v:=fun a v h=>VR.mono (w:=w) (fun _=>Nat.le_refl _) (fun b k _=>hfc b k) h
   refine⟨_,_,_,G',he,hq,⟨fun b hb=>?_,fun b hb=>?_⟩,?_,⟨.str _,trivial⟩,cz⟩
   ·rw[f2]at hb;exact k2.k7 b hb
   ·rw[f2]at hb;exact k2.mn b hb
   ·refine k1.zg hvr (fun b hb=>⟨hb,rfl,f1 b (fun e=>by subst e;rw[adN]at hb;cases hb)⟩) (fun b c' j _ hc=>⟨hc,rfl,f1 c' (fun e=>by subst e;rw[adN]at hc;cases hc)⟩)
end Go.AB
end
