/- A part. -/
import Derived.Test.YtgecakgfnjkkbaaGreatRt7
set_option linter.defProp false
set_option linter.unusedSimpArgs false
set_option linter.unusedVariables false
section
namespace Go.AB
open Go
abbrev KK(α:Type):=Nat->Nat->(α->Nat->Nat->IC)->IC
def dR(r:Nat):KK Nat:=fun n p k=>match n/r with
 |0=>k (n % r) 0 p
 |m+1=>k (n % r) (m+1) p
def dN:KK Nat:=fun n p k=>dR 16 n p fun c n p=>match c with
 |14=>dR 256 n p fun x n p=>k (x+14) n p
 |15=>dR 4 n p fun s n p=>dR (2^(16*2^s)) n p k
 |c=>k c n p
def dB:KK Bool:=fun n p k=>dR 2 n p fun c n p=>match c with
 |0=>k false n p
 |_=>k true n p
def dM{α:Type}(f:KK α):Nat->KK (List α)
 |0,n,p,k=>k [] n p
 |m+1,n,p,k=>f n p fun x n p=>dM f m n p fun xs n p=>k (x::xs) n p
def dL{α:Type}(f:KK α):KK (List α):=fun n p k=>dN n p fun m n p=>dM f m n p k
def dP{α β:Type}(f:KK α)(g:KK β):KK (α×β):=fun n p k=>f n p fun a n p=>g n p fun b n p=>k (a,b) n p
def dO{α:Type}(f:KK α):KK (Option α):=fun n p k=>dB n p fun c n p=>match c with
 |false=>k none n p
 |true=>f n p fun a n p=>k (some a) n p
def dK:KK IntKind:=fun n p k=>dR 8 n p fun c n p=>match c with
 |0=>k .i64 n p
 |1=>k .u8 n p
 |2=>k .u32 n p
 |3=>k .u64 n p
 |4=>k .i32 n p
 |_=>k .u16 n p
def u8s(l:List Nat):List UInt8:=l.map UInt8.ofNat
def dA:Nat->KK AV
 |0,_,_,_=>.dead
 |f+1,n,p,k=>dR 16 n p fun c n p=>match c with
  |0=>dN n p fun x n p=>k (.int .i64 (.ofNat x)) n p
  |1=>dK n p fun i n p=>dN n p fun x n p=>k (.int i (.ofNat x)) n p
  |2=>dR 256 n p fun x n p=>k (.int .u8 (.ofNat x)) n p
  |3=>k (.bool false) n p
  |4=>k (.bool true) n p
  |5=>dL (dR 256) n p fun s n p=>k (.str (u8s s)) n p
  |6=>k .fM n p
  |7=>dB n p fun o n p=>dN n p fun s n p=>dN n p fun m n p=>dL (dA f) n p fun c n p=>k (.sl o s m c) n p
  |8=>dL (dA f) n p fun c n p=>k (.agg c) n p
  |9=>k .pP n p
  |10=>dR 512 n p fun g n p=>dL (dA f) n p fun a n p=>dL (dA f) n p fun c n p=>k (.fn g a c) n p
  |11=>dN n p fun t n p=>dN n p fun m n p=>dL (dA f) n p fun c n p=>k (.bb t m c) n p
  |12=>k .mw n p
  |13=>k .uf n p
  |14=>dN n p fun x n p=>k (.int .i64 (.negSucc x)) n p
  |_=>k (.arr 0 0 0 0) n p
def dX:KK IX:=fun n p k=>dR 16 n p fun c n p=>match c with
 |0=>dA 8 n p fun a n p=>k (.c a) n p
 |15=>dN n p fun i n p=>k (.t i) n p
 |c=>bif Nat.blt c 8 then k (.t (p+1 -c)) n p else k (.t (c -8)) n p
def dBo:KK BinOp:=fun n p k=>dR 17 n p fun c n p=>match c with
 |0=>k .add n p
 |1=>k .sub n p
 |2=>k .mul n p
 |3=>k .quo n p
 |4=>k .rem n p
 |5=>k .and n p
 |6=>k .or n p
 |7=>k .xor n p
 |8=>k .shl n p
 |9=>k .shr n p
 |10=>k .andNot n p
 |11=>k .lss n p
 |12=>k .leq n p
 |13=>k .gtr n p
 |14=>k .geq n p
 |15=>k .eql n p
 |_=>k .neq n p
def dUo:KK UnOp:=fun n p k=>dR 3 n p fun c n p=>match c with
 |0=>k .not n p
 |1=>k .neg n p
 |_=>k .xor n p
def dKk:KK mb:=fun n p k=>dR 4 n p fun c n p=>match c with
 |0=>dK n p fun i n p=>k (.int i) n p
 |1=>k .str n p
 |2=>k .bool n p
 |_=>dN n p fun m n p=>k (.bytes m) n p
def dOq:KK rF:=fun n p k=>dR 64 n p fun c n p=>match c with
 |0=>dX n p fun a n p=>k (.vJ a) n p
 |1=>dUo n p fun a n p=>dX n p fun b n p=>k (.un a b) n p
 |2=>dN n p fun a n p=>dX n p fun b n p=>k (.Kg a b) n p
 |3=>dK n p fun a n p=>dX n p fun b n p=>k (.nx a b) n p
 |4=>dN n p fun a n p=>dN n p fun b n p=>dL (dA 8) n p fun c n p=>dL (dP dN (dP dN dX)) n p fun d n p=>k (.ik a b c d) n p
 |5=>dX n p fun a n p=>dL dX n p fun b n p=>k (.iL a b) n p
 |6=>dN n p fun a n p=>dX n p fun b n p=>dX n p fun c n p=>k (.AL a b c) n p
 |7=>dN n p fun a n p=>dX n p fun b n p=>k (.Bq a b) n p
 |8=>dN n p fun a n p=>dN n p fun b n p=>dL (dA 8) n p fun c n p=>dX n p fun d n p=>dX n p fun e n p=>k (.nU a b c d e) n p
 |9=>dB n p fun a n p=>dX n p fun b n p=>dX n p fun c n p=>k (.WB a b c) n p
 |10=>dX n p fun a n p=>k (.nK a) n p
 |11=>dN n p fun a n p=>dN n p fun b n p=>dX n p fun c n p=>dX n p fun d n p=>k (.jz a b c d) n p
 |12=>dB n p fun a n p=>dL dX n p fun b n p=>k (.mq a b) n p
 |13=>dN n p fun a n p=>dN n p fun b n p=>dX n p fun c n p=>dX n p fun d n p=>k (.append a b c d) n p
 |14=>dL (dA 8) n p fun a n p=>k (.nv a) n p
 |15=>dR 512 n p fun a n p=>dL dX n p fun b n p=>dL dX n p fun c n p=>k (.ue a b c) n p
 |16=>dX n p fun a n p=>dX n p fun b n p=>k (.lU a b) n p
 |17=>dN n p fun a n p=>dN n p fun b n p=>dL (dA 8) n p fun c n p=>dX n p fun d n p=>dX n p fun e n p=>k (.lP a b c d e) n p
 |18=>dX n p fun a n p=>dO dX n p fun b n p=>dO dX n p fun c n p=>k (.qy a b c) n p
 |19=>dX n p fun a n p=>k (.kP a) n p
 |20=>dN n p fun a n p=>dB n p fun b n p=>dX n p fun c n p=>k (.WD a b c) n p
 |21=>dL (dA 8) n p fun a n p=>dX n p fun b n p=>k (.tx a b) n p
 |22=>dB n p fun a n p=>dX n p fun b n p=>k (.eqN a b) n p
 |23=>dN n p fun a n p=>dN n p fun b n p=>dL (dA 8) n p fun c n p=>dL (dP dN (dP dN dX)) n p fun d n p=>k (.mV a b c d) n p
 |24=>dN n p fun a n p=>dN n p fun b n p=>dX n p fun c n p=>k (.Kh a b c) n p
 |25=>dX n p fun a n p=>k (.cap a) n p
 |26=>dKk n p fun a n p=>dA 8 n p fun b n p=>dB n p fun c n p=>dX n p fun d n p=>dX n p fun e n p=>k (.lookup a b c d e) n p
 |27=>k .makeMap n p
 |28=>dR 512 n p fun a n p=>dX n p fun b n p=>dX n p fun c n p=>k (.ovl a b c) n p
 |29=>dN n p fun a n p=>dN n p fun b n p=>dL (dA 8) n p fun c n p=>dX n p fun d n p=>dX n p fun e n p=>k (.pU a b c d e) n p
 |30=>dKk n p fun a n p=>dX n p fun b n p=>dX n p fun c n p=>dX n p fun d n p=>k (.mapUpdate a b c d) n p
 |31=>dB n p fun a n p=>dX n p fun b n p=>k (.Xo a b) n p
 |32=>dB n p fun a n p=>dX n p fun b n p=>dX n p fun c n p=>k (.eqB a b c) n p
 |33=>dN n p fun a n p=>dB n p fun b n p=>dX n p fun c n p=>k (.A9 a b c) n p
 |34=>dR 512 n p fun a n p=>dN n p fun b n p=>dL dX n p fun c n p=>k (.xU a b c) n p
 |35=>dX n p fun a n p=>k (.KA a) n p
 |36=>dR 512 n p fun a n p=>dX n p fun b n p=>k (.AI a b) n p
 |37=>dN n p fun a n p=>dX n p fun b n p=>k (.Kz a b) n p
 |38=>dN n p fun a n p=>dX n p fun b n p=>dX n p fun c n p=>k (.pT a b c) n p
 |39=>dB n p fun a n p=>dX n p fun b n p=>k (.Xn a b) n p
 |40=>dB n p fun a n p=>dX n p fun b n p=>dX n p fun c n p=>k (.WC a b c) n p
 |_=>dN n p fun a n p=>dN n p fun b n p=>dN n p fun c n p=>dN n p fun d n p=>dX n p fun e n p=>k (.Ki a b c d e) n p
def dOp:KK rF:=fun n p k=>dR 16 n p fun c n p=>match c with
 |0=>dB n p fun a n p=>dX n p fun b n p=>k (.px a b) n p
 |1=>dBo n p fun a n p=>dX n p fun b n p=>dX n p fun c n p=>k (.bin a b c) n p
 |2=>dN n p fun a n p=>dX n p fun b n p=>k (.fieldAddr a b) n p
 |3=>dN n p fun a n p=>dB n p fun b n p=>dX n p fun c n p=>k (.load a b c) n p
 |4=>dR 512 n p fun a n p=>dL dX n p fun b n p=>k (.call a b) n p
 |5=>dX n p fun a n p=>k (.nilCheck a) n p
 |6=>dN n p fun a n p=>dX n p fun b n p=>dX n p fun c n p=>k (.store a b c) n p
 |7=>dX n p fun a n p=>dN n p fun b n p=>k (.extract a b) n p
 |8=>dN n p fun a n p=>dX n p fun b n p=>k (.len a b) n p
 |9=>dX n p fun a n p=>dX n p fun b n p=>dX n p fun c n p=>k (.pick a b c) n p
 |10=>dL (dA 8) n p fun a n p=>dB n p fun b n p=>dX n p fun c n p=>k (.kE a b c) n p
 |11=>dL (dA 8) n p fun a n p=>dX n p fun b n p=>dX n p fun c n p=>k (.indexAddr a b c) n p
 |12=>dL (dA 8) n p fun a n p=>dL (dP dN (dP dN dX)) n p fun b n p=>k (.build a b) n p
 |13=>dL (dA 8) n p fun a n p=>k (.kj a) n p
 |14=>dN n p fun a n p=>dX n p fun b n p=>dO dX n p fun c n p=>dO dX n p fun d n p=>dO dX n p fun e n p=>k (.slice a b c d e) n p
 |_=>dOq n p k
def dGd(c:Nat):KK (Option (Nat×Bool)):=fun n p k=>bif Nat.blt c 3 then k none n p else dX n p fun x n p=>dB n p fun w n p=>match x with
 |.t i=>k (some (i,w)) n p
 |_=>.dead
def dFo(x:Nat)(k:Nat->IC):IC:=match x with
 |0=>k 0
 |m+1=>k (m+1)
def dOr:KK ar:=fun n p k=>dR 6 n p fun c n p=>match c % 3 with
 |0=>dGd c n p fun g n p=>dOp n p fun o n p=>k ⟨none,o,g⟩ n p
 |1=>dGd c n p fun g n p=>dOp n p fun o n p=>dFo (p+1) fun d=>k ⟨some d,o,g⟩ n d
 |_=>dN n p fun d n p=>dGd c n p fun g n p=>dOp n p fun o n _=>dFo d fun d=>k ⟨some d,o,g⟩ n d
def dSl:Nat->Nat->KK (List Nat)
 |0,_,n,p,k=>k [] n p
 |m+1,q,n,p,k=>dN n p fun x n p=>dFo (q+x) fun q=>dSl m q n p fun xs n p=>k (q::xs) n p
def dV:KK (List Nat):=fun n p k=>dN n p fun m n p=>dSl m 0 n p k
def dSb:Nat->Nat->KK (List (Nat×Bool))
 |0,_,n,p,k=>k [] n p
 |m+1,q,n,p,k=>dN n p fun x n p=>dB n p fun b n p=>dFo (q+x) fun q=>dSb m q n p fun xs n p=>k ((q,b)::xs) n p
def dW:KK (List (Nat×Bool)):=fun n p k=>dN n p fun m n p=>dSb m 0 n p k
def dC:Nat->KK IC
 |0,_,_,_=>.dead
 |f+1,n,p,k=>dR 9 n p fun c n p=>match c with
  |0=>dC f n p fun a n p=>dC f n p fun b n p=>k (.seq a b) n p
  |1=>dL dOr n p fun o n p=>dV n p fun v n p=>k (.EX none o v) n p
  |2=>dX n p fun x n p=>dC f n p fun a n p=>dC f n p fun b n p=>k (.cond x a b) n p
  |3=>k .ret n p
  |4=>k .skip n p
  |5=>dN n p fun m n p=>dC f n p fun a n p=>k (.block m a) n p
  |6=>dW n p fun v n p=>dC f n p fun a n p=>k (.loop v a) n p
  |7=>dW n p fun v n p=>dC f n p fun a n p=>dC f n p fun b n p=>k (.join v a b) n p
  |_=>dR 10 n p fun c n p=>match c with
   |0=>dN n p fun m n p=>k (.exit m) n p
   |1=>dN n p fun q n p=>dL dOr n p fun o n p=>dV n p fun v n p=>k (.EX (some q) o v) n p
   |2=>dN n p fun m n p=>k (.label m) n p
   |3=>dN n p fun m n p=>k (.goto m) n p
   |4=>dC f n p fun a n p=>k (.scope a) n p
   |5=>dV n p fun t n p=>dN n p fun q n p=>dL dOr n p fun o n p=>dV n p fun v n p=>k (.VE t q o v) n p
   |6=>dL (dL dB) n p fun t n p=>dL dOr n p fun o n p=>dV n p fun v n p=>k (.YU t o v) n p
   |7=>k .dead n p
   |8=>dV n p fun t n p=>dL (dP (dR 4) (dP dN dOr)) n p fun o n p=>dV n p fun v n p=>k (.RD t o v) n p
   |_=>dN n p fun m n p=>dW n p fun v n p=>dC f n p fun a n p=>dC f n p fun b n p=>dC f n p fun c n p=>dC f n p fun d n p=>k (.Er m v a b c d) n p
def dec(n:Nat):IC:=dC 400 n 0 fun c _ _=>c
attribute[irreducible] u8s
theorem ofN(n:Nat):Int.ofNat (no_index (OfNat.ofNat n))=OfNat.ofNat n:=rfl
theorem ngN(n:Nat):Int.negSucc n=-((n+1:Nat):Int):=rfl
theorem Zs:u8s []=[]:=by unfold u8s;rfl
theorem Wa(n:Nat)(l:List Nat):u8s (no_index (OfNat.ofNat n)::l)=OfNat.ofNat n::u8s l:=by unfold u8s;rfl
attribute[go_sem] ofN ngN Zs Wa
theorem iK{f f':IX->AV}:∀(xs:List IX),(∀x∈xs,f x=f' x)->cL f xs=cL f' xs
 |[],_=>rfl
 |x::xs,h=>by
  show Qt (f x) (cL f xs)=Qt (f' x) (cL f' xs)
  rw[h x List.mem_cons_self,iK xs fun y hy=>h y (List.mem_cons_of_mem _ hy)]
theorem wS{f f':IX->AV}:∀(ps:List (Nat×Nat×IX))(cs:List AV),(∀x∈ps.map (fun p=>p.2.2),f x=f' x)->fill f cs ps=fill f' cs ps
 |[],_,_=>rfl
 |(off,n,x)::ps,cs,h=>by
  have h1:=h x BY
  have ih:=fun cs=>wS ps cs fun y hy=>h y A_
  unfold fill
  rw[h1]
  simp[ih]
def mj{f f':IX->AV}(o:Option IX)(d:Int)(h:∀x∈oX o,f x=f' x):G7 f o d=G7 f' o d:=by
 cases o with
 |none=>rfl
 |some x=>grind [G7,oX]
def Vp{o:rF}{f f':IX->AV}{E E':St}(h:∀x∈eT o,f x=f' x)(hx:∀x∈eT o,E.x x=E'.x x)(hs:E.s=E'.s)(hrd:∀x∈eT o,∀n,rd E (f x) n=rd E' (f x) n):pv o f E=pv o f' E':=by
 cases o<;>(try rfl)
 case px tr x=>cases tr<;>first|rfl|(show Rj (f x)=Rj (f' x);grind [eT])
 case pick c x y=>show Hv (E.x x) (E.x y) (f c)=Hv (E'.x x) (E'.x y) (f' c);grind [eT]
 case build z ps=>show CA (fill f z ps)=CA (fill f' z ps);rw[wS ps z h]
 case load n m x=>show j9 m (rd E (f x) n)=j9 m (rd E' (f' x) n);grind [eT]
 case nN k x=>show z7 k E.s (f x)=z7 k E'.s (f' x);grind [eT]
 case kE z m x=>show Hf z m E.s (f x)=Hf z m E'.s (f' x);grind [eT]
 case kP x=>show rR (f x)=rR (f' x);grind [eT]
 case nilCheck x=>show mr (f x)=mr (f' x);grind [eT]
 case bin b x y=>show MU b (f x) (f y)=MU b (f' x) (f' y);grind [eT]
 case eqB b x y=>show Np b (f x) (f y)=Np b (f' x) (f' y);grind [eT]
 case WB b x y=>show Fa b (f x) (f y)=Fa b (f' x) (f' y);grind [eT]
 case WC b x y=>unfold pv;grind [eT]
 case un u x=>show unV u (f x)=unV u (f' x);grind [eT]
 case nx k x=>show uL k (f x)=uL k (f' x);grind [eT]
 case lU x i=>show vd (f x) (f i)=vd (f' x) (f' i);grind [eT]
 case fieldAddr off x=>show gP off x (f x)=gP off x (f' x);grind [eT]
 case indexAddr sz x i=>show kU sz (f x) (f i)=kU sz (f' x) (f' i);grind [eT]
 case jz sz l x i=>show gy sz l x (f x) (f i)=gy sz l x (f' x) (f' i);grind [eT]
 case slice sz x lo hi mx=>
  cases mx with
  |some m=>
   have e1:=mj (f:=f) (f':=f') lo 0 fun y hy=>h y X_
   have e2:=mj (f:=f) (f':=f') hi 0 fun y hy=>h y X_
   have e3:=mj (f:=f) (f':=f') (some m) 0 fun y hy=>h y X_
   show qf sz f lo hi m (f x)=qf sz f' lo hi m (f' x)
   rw[h x PE]
   unfold qf
   grind
  |none=>
   have e1:=mj (f:=f) (f':=f') lo 0 fun y hy=>h y X_
   have e2:=fun d=>mj (f:=f) (f':=f') hi d fun y hy=>h y X_
   show ux sz f lo hi (f x)=ux sz f' lo hi (f' x)
   rw[h x PE]
   unfold ux
   grind
 case qy x lo hi=>
  have e1:=mj (f:=f) (f':=f') lo 0 fun y hy=>h y X_
  have e2:=fun d=>mj (f:=f) (f':=f') hi d fun y hy=>h y X_
  show mI f lo hi (f x)=mI f' lo hi (f' x)
  rw[h x PE]
  unfold mI
  grind
 case Xo b x=>show KR b (f x)=KR b (f' x);grind [eT]
 case Xn b x=>show KQ b (f x)=KQ b (f' x);grind [eT]
 case cap x=>show M4 (f x)=M4 (f' x);grind [eT]
 case extract x k=>show qM k (f x)=qM k (f' x);grind [eT]
 case len c x=>show BK E.s c (f x)=BK E'.s c (f' x);grind [eT]
 case mq m xs=>
  show uU m (xs.map f)=uU m (xs.map f')
  rw[show xs.map f=xs.map f' from List.map_congr_left h]
 case ue fi xs ys=>
  show uT fi (cL f xs) (cL f ys)=uT fi (cL f' xs) (cL f' ys)
  grind [iK,eT]
def dr(o:ar)(E:St):St:=match o.op with
 |.px true x=>E.drain x
 |_=>E
def step(E:St)(o:ar)(v:AV):St:=(ch (dr o E) v o.dst).put o.dst v
theorem Th{o:ar}{E:St}(h:qv o E≠.no):dr o E=E:=by
 obtain⟨d,op,g⟩:=o
 unfold dr
 split
 ·rename_i x hop
  subst hop
  refine absurd ?_ h
  cases g with
  |none=>rfl
  |some tw=>
   obtain⟨t,want⟩:=tw
   show Ol (.px true x) want E (look E.e t)=.no
   unfold Ol
   split<;>rfl
 ·rfl
inductive Y(P:Program)(E:St):ar->AV->Prop where
 |pure (o:ar) (v:AV) (h:(qv o E=.c8 v\/∃c,qv o E=.prt c v/\c)):Y P E o v
 |px (d:Option Nat) (x:IX) (h:dF (E.x x)=true):Y P E ⟨d,.px true x,none⟩ (E.x x)
 |call (d:Option Nat) (f:Nat) (args:List IX) (as rs:List AV) (h1:cL (xg true E) args=some as) (h2:ko rs=true) (h3:FE P f as E.s rs E.s):Y P E ⟨d,.call f args,none⟩ (fO rs)
 |Ko (d:Option Nat) (f:Nat) (args:List IX) (t:Nat) (want g0 b:Bool) (rs:List AV) (h0:TL (look E.e t)=some (g0,b)) (h2:ko rs=true)
   (h1:(g0&&(b==want))=true->∃as,cL (xg true E) args=some as/\FE P f as E.s rs E.s):Y P E ⟨d,.call f args,some (t,want)⟩ (.when (g0&&(b==want)) (fO rs))
 |iL (d:Option Nat) (x:IX) (args:List IX) (f:Nat) (as rs:List AV) (h1:callee x args true E f as) (hf:sQ P f=true) (h2:ko rs=true) (h3:FE P f as E.s rs E.s):Y P E ⟨d,.iL x args,none⟩ (fO rs)
 |CJ (d:Option Nat) (x:IX) (args:List IX) (t:Nat) (want g0 b:Bool) (rs:List AV) (h0:TL (look E.e t)=some (g0,b)) (h2:ko rs=true)
   (h1:(g0&&(b==want))=true->∃f as,callee x args true E f as/\sQ P f=true/\FE P f as E.s rs E.s):Y P E ⟨d,.iL x args,some (t,want)⟩ (.when (g0&&(b==want)) (fO rs))
 |eff (o:ar) (v:AV) (h:(EW o E=.c8 v\/∃c,EW o E=.prt c v/\c)):Y P E o v
def adG{o:rF}{want:Bool}{E:St}{a:AV}:(∃g b,TL a=some (g,b)/\Ol o want E a=Zx (rdO o) (g&&(b==want)) (pv o (xg (g&&(b==want)) E) E))\/Ol o want E a=.no:=by
 unfold Ol
 split
 ·exact .inl ⟨_,_,rfl,rfl⟩
 ·exact .inl ⟨_,_,rfl,rfl⟩
 grind
def Vv{o:rF}{want:Bool}{E:St}{a:AV}:(∃g b,TL a=some (g,b)/\P2 o want E a=Sl (g&&(b==want)) (qe (xg (g&&(b==want)) E) E.s o))\/P2 o want E a=.no:=by
 unfold P2
 split
 ·exact .inl ⟨_,_,rfl,rfl⟩
 ·exact .inl ⟨_,_,rfl,rfl⟩
 grind
theorem Cg{P:Program}{o:rF}{d:Option Nat}{t:Nat}{want:Bool}{E:St}{K:St->Prop}{a:AV}{g b:Bool}(h:TL a=some (g,b)):zH P o d t want E K a=Si P (g&&(b==want)) o E d K (pv o (xg (g&&(b==want)) E) E):=by
 unfold TL at h
 split at h
 ·injection h with h;injection h with h1 h2;subst h1;subst h2;rfl
 ·injection h with h;injection h with h1 h2;subst h1;subst h2;rfl
 ·cases h
theorem yU{v:AV}(h:xq v=true):bF v=true/\(∀t,¬bO v t)/\(∀τ d,ch τ v d=τ):=by cases v<;>first|(simp[xq,dF]at h;done)|exact⟨rfl,fun t h=>h,fun τ d=>D_⟩
theorem DT{f:IX->AV}{s:ae}{o:rF}{v:AV}(h:qe f s o=.c8 v\/∃c,qe f s o=.prt c v):xq v=true/\(∀g τ,pv o g τ=.no)/\(∀x,o≠.px true x):=by
 have tt:∀{r:PR}{u:AV},r=.c8 u->(r=.c8 v\/∃c,r=.prt c v)->v=u:=by grind
 have tp:∀{r:PR}{u:AV}{c:Prop},r=.prt c u->(r=.c8 v\/∃c,r=.prt c v)->v=u:=by grind
 have tn:∀{r:PR},r=.no->¬(r=.c8 v\/∃c,r=.prt c v):=by simp
 have ok:∀(k:Bool)(a:AV)(b:Bool),(k=false->dF a=true)->xq (EU k a b)=true:=by
  intro k a b ha
  cases k with
  |true=>rfl
  |false=>show xq a=true;have:=ha rfl;cases a<;>first|exact this|rfl
 unfold qe at h
 split at h
 ·rename_i sz n z ps
  refine⟨?_,fun g τ=>rfl,fun x h=>by cases h⟩
  cases hx:fill f z ps<;>rw[hx]at h
  ·exact absurd h (tn rfl)
  ·rw[tp rfl h];rfl
 ·rename_i kk zero k x ky
  refine⟨?_,fun g τ=>rfl,fun x h=>by cases h⟩
  have ck:∀{c:Prop}{a:AV}{b:Bool},(Ks k c (EU k a b)=.c8 v\/∃c',Ks k c (EU k a b)=.prt c' v)->xq v=true:=by
   intro c a b h
   unfold Ks at h
   cases hp:xp k (EU k a b)with
   |false=>grind
   |true=>
    rw[hp]at h
    rw[tp rfl h]
    refine ok k a b fun hk=>?_
    subst hk;exact hp
  have ck':∀{c:Prop}{o:Option AV},(Ks k c (uc zero k o)=.c8 v\/∃c',Ks k c (uc zero k o)=.prt c' v)->xq v=true:=by
   intro c o h
   cases o with
   |none=>exact ck h
   |some a=>exact ck h
  unfold kN at h
  split at h
  ·unfold oe at h
   grind
  ·exact ck h
  grind
 ·rename_i x
  refine⟨?_,fun g τ=>rfl,fun x h=>by cases h⟩
  unfold FY at h
  split at h
  ·rw[tt rfl h];rfl
  grind
 ·rename_i x
  refine⟨?_,fun g τ=>rfl,fun x h=>by cases h⟩
  unfold EH at h
  split at h
  ·rw[tt rfl h];rfl
  grind
 grind
theorem Vw{o:ar}{E:St}{v:AV}(h:EW o E=.c8 v\/∃c,EW o E=.prt c v/\c):
 bF v=true/\(∀t,¬bO v t)/\(∀τ d,ch τ v d=τ)/\dr o E=E:=by
 obtain⟨d,op,g⟩:=o
 have hdr:(∀x,op≠.px true x)->dr ⟨d,op,g⟩ E=E:=by
  intro h
  unfold dr
  split
  ·grind
  ·rfl
 have wk:∀{r:PR},(r=.c8 v\/∃c,r=.prt c v/\c)->(r=.c8 v\/∃c,r=.prt c v):=fun h=>h.imp id fun⟨c,h,_⟩=>⟨c,h⟩
 cases g with
 |none=>
  have h':qe (xg true E) E.s op=.c8 v\/∃c,qe (xg true E) E.s op=.prt c v:=wk h
  grind [DT,yU]
 |some tw=>
  obtain⟨t,want⟩:=tw
  have h':P2 op want E (look E.e t)=.c8 v\/∃c,P2 op want E (look E.e t)=.prt c v:=wk h
  rcases Vv with⟨g0,b,hg0,hl⟩|hl<;>rw[hl]at h'
  case inr=>grind
  generalize(g0&&(b==want))=gg at h'
  have h2:=h'
  have:∃u,v=.when gg u/\(qe (xg gg E) E.s op=.c8 u\/∃c,qe (xg gg E) E.s op=.prt c u):=by
   cases hq:qe (xg gg E) E.s op with
   |c8 u=>
    rw[hq]at h2
    refine⟨u,?_,.inl rfl⟩
    rcases h2 with h2|⟨c,h2⟩
    ·injection h2 with h2;exact h2.symm
    ·cases h2
   |prt c u=>
    rw[hq]at h2
    refine⟨u,?_,.inr ⟨c,rfl⟩⟩
    rcases h2 with h2|⟨c,h2⟩
    ·cases h2
    ·injection h2 with _ h2;exact h2.symm
   |no=>rw[hq]at h2;rcases h2 with h2|⟨c,h2⟩<;>cases h2
  obtain⟨u,rfl,hu⟩:=this
  obtain⟨h1,_,h3⟩:=DT hu
  obtain⟨f1,f2,f3⟩:=yU h1
  exact⟨rfl,fun t ht=>f2 t ht,fun τ d=>f3 τ d,hdr h3⟩
section
variable{P:Program}{G G':Gh}{n:Nat}{D:List Deferred}{E E':St}{a:Act}{w w':World}
theorem qa{rs:List AV}(h:ko rs=true)(E:St)(d:Option Nat):ch E (fO rs) d=E:=by
 match rs,h with
 |[],_=>cases d<;>rfl
 |[r],h=>cases r<;>first|(cases d<;>rfl)|(simp[ko,dF,Uw]at h)
 |_::_::_,_=>cases d<;>rfl
theorem Lm{r:AV}(hr:dF r=true)(E:St)(d:Option Nat):ch E r d=E:=by cases r<;>first|(cases d<;>rfl)|grind [dF]
def qb{rs:List AV}(h:ko rs=true):bF (fO rs)=true:=by
 match rs,h with
 |[],_=>rfl
 |[r],h=>cases r<;>first|rfl|(simp[ko,dF,Uw]at h)
 |_::_::_,_=>rfl
def Oi{o:ar}{K:St->Prop}(h:q1 P o E K):∃v,bF v=true/\Y P E o v/\K (step E o v):=by
 have gen:qK E o.dst K (qv o E)->∃v,bF v=true/\Y P E o v/\K (step E o v):=by
  intro hq
  cases hv:qv o E with
  |c8 v=>rw[hv]at hq;exact⟨v,hq.1,.pure o v (.inl hv),by unfold step;rw[Th (by rw[hv];simp)];exact hq.2⟩
  |prt c v=>rw[hv]at hq;exact⟨v,hq.2.1,.pure o v (.inr ⟨c,hv,hq.1⟩),by unfold step;rw[Th (by rw[hv];simp)];exact hq.2.2⟩
  |no=>rw[hv]at hq;exact hq.elim
 have TK:∀{o:ar},qK E o.dst K (EW o E)->∃v,bF v=true/\Y P E o v/\K (step E o v):=by
  intro o hq
  cases hv:EW o E with
  |c8 v=>rw[hv]at hq;exact⟨v,hq.1,.eff o v (.inl hv),by unfold step;rw[(Vw (.inl hv)).2.2.2];exact hq.2⟩
  |prt c v=>rw[hv]at hq;exact⟨v,hq.2.1,.eff o v (.inr ⟨c,hv,hq.1⟩),by unfold step;rw[(Vw (.inr ⟨c,hv,hq.1⟩)).2.2.2];exact hq.2.2⟩
  |no=>rw[hv]at hq;exact hq.elim
 unfold q1 at h
 split at h
 ·rename_i d f args
  cases ha:cL (xg true E) args with
  |none=>rw[ha]at h;exact h.elim
  |some as=>
   rw[ha]at h
   obtain⟨rs,h2,h3,h4⟩:=h
   refine⟨_,qb h2,.call d f args as rs ha h2 h3,?_⟩
   show K ((ch E (fO rs) d).put d (fO rs))
   grind [qa]
 ·rename_i d x
  obtain⟨h1,h2⟩:=h
  refine⟨_,?_,.px d x h1,?_⟩
  ·generalize E.x x=av at h1
   cases av<;>first|rfl|grind [dF]
  ·show K ((ch (E.drain x) (E.x x) d).put d (E.x x))
   grind [Lm]
 ·rename_i d f args t want
  have h:∃g0 b,TL (look E.e t)=some (g0,b)/\∃rs,ko rs=true/\((g0&&(b==want))=true->∃as,cL (xg (g0&&(b==want)) E) args=some as/\FE P f as E.s rs E.s)/\K (E.put d (.when (g0&&(b==want)) (fO rs))):=by
   unfold Jq at h
   split at h
   ·rename_i b hl;exact⟨true,b,η,h⟩
   ·rename_i g b hl;exact⟨g,b,η,h⟩
   ·exact h.elim
  obtain⟨g0,b,hl,rs,h2,h3,h4⟩:=h
  refine⟨_,rfl,.Ko d f args t want g0 b rs hl h2 (fun hb=>A_),?_⟩
  have:ch E (.when (g0&&(b==want)) (fO rs)) d=E:=qa h2 E d
  show K ((ch E (.when (g0&&(b==want)) (fO rs)) d).put d (.when (g0&&(b==want)) (fO rs)))
  grind
 ·rename_i d x args
  cases hx:xg true E x<;>rw[hx]at h<;>try exact h.elim
  rename_i f first fC
  cases ha:cL (xg true E) args with
  |none=>rw[ha]at h;exact h.elim
  |some as=>
   rw[ha]at h
   obtain⟨hf,rs,h2,h3,h4⟩:=h
   refine⟨_,qb h2,.iL d x args f _ rs ⟨first,fC,as,hx,ha,rfl⟩ hf h2 h3,?_⟩
   show K ((ch E (fO rs) d).put d (fO rs))
   grind [qa]
 ·rename_i d x args t want
  have h:∃g0 b,TL (look E.e t)=some (g0,b)/\∃rs,ko rs=true/\((g0&&(b==want))=true->∃f as,callee x args (g0&&(b==want)) E f as/\sQ P f=true/\FE P f as E.s rs E.s)/\K (E.put d (.when (g0&&(b==want)) (fO rs))):=by
   unfold Jr at h
   split at h
   ·rename_i b hl;exact⟨true,b,η,h⟩
   ·rename_i g b hl;exact⟨g,b,η,h⟩
   ·exact h.elim
  obtain⟨g0,b,hl,rs,h2,h3,h4⟩:=h
  refine⟨_,rfl,.CJ d x args t want g0 b rs hl h2 (fun hb=>A_),?_⟩
  have:ch E (.when (g0&&(b==want)) (fO rs)) d=E:=qa h2 E d
  show K ((ch E (.when (g0&&(b==want)) (fO rs)) d).put d (.when (g0&&(b==want)) (fO rs)))
  grind
 ·exact TK h
 ·exact TK h
 ·exact TK h
 ·exact TK h
 grind
end
theorem iO{i:Nat}:∀{l:List IX},IX.t i∈l->i∈Ci l
 |.t j::r,h=>by
  rcases List.mem_cons.1 h with h|h
  ·injection h with h;subst h;exact List.mem_cons_self
  ·exact List.mem_cons_of_mem _ (iO h)
 |.c a::r,h=>by
  rcases List.mem_cons.1 h with h|h
  ·cases h
  ·exact iO (l:=r) h
section
variable{P:Program}{G G':Gh}{n:Nat}{D:List Deferred}{E E':St}{a:Act}{w w':World}
structure J6(o:ar)(E E':St):Prop where
 xs:∀x∈eT o.op,E.x x=E'.x x
 g:∀t want,o.g=some (t,want)->look E.e t=look E'.e t
 s:E.s=E'.s
 rd:∀x∈eT o.op,∀g n,rd E (AB.xg g E x) n=rd E' (AB.xg g E x) n
theorem J6.symm{o:ar}(h:J6 o E E'):J6 o E' E:=⟨fun x hx=>(h.xs x hx).symm,fun t w hg=>(h.g t w hg).symm,h.s.symm,fun x hx g n=>by
 have e:AB.xg g E' x=AB.xg g E x:=by unfold AB.xg;rw[h.xs x hx]
 rw[e];exact(h.rd x hx g n).symm⟩
theorem J6.xg{o:ar}(h:J6 o E E')(g:Bool):∀x∈eT o.op,xg g E x=xg g E' x:=fun x hx=>by unfold AB.xg;rw[h.xs x hx]
theorem J6.qv{o:ar}(h:J6 o E E'):qv o E=qv o E':=by
 have hp:=fun g=>Vp (h.xg g) h.xs h.s fun x hx n=>h.rd x hx g n
 unfold AB.qv
 cases hg:o.g with
 |none=>exact hp true
 |some tw=>
  obtain⟨t,want⟩:=tw
  show Ol o.op want E (look E.e t)=Ol o.op want E' (look E'.e t)
  rw[h.g t want hg]
  unfold Ol
  grind
theorem J6.qe{o:ar}(h:J6 o E E')(g:Bool):qe (AB.xg g E) E.s o.op=qe (AB.xg g E') E'.s o.op:=by
 have hx:=h.xg g
 have hs:=h.s
 obtain⟨d,op,gg⟩:=o
 cases op<;>first|rfl|skip
 case ik sz n z ps=>show HA sz n (fill (AB.xg g E) z ps)=HA sz n (fill (AB.xg g E') z ps);rw[wS ps z hx]
 case lookup kk z ok x k=>show kN kk z ok E.s (AB.xg g E k) (AB.xg g E x)=kN kk z ok E'.s (AB.xg g E' k) (AB.xg g E' x);grind [eT]
 case vJ x=>show EH (AB.xg g E x)=EH (AB.xg g E' x);grind [eT]
 case oY x=>show FY (AB.xg g E x)=FY (AB.xg g E' x);grind [eT]
theorem J6.EW{o:ar}(h:J6 o E E'):EW o E=EW o E':=by
 unfold AB.EW
 cases hg:o.g with
 |none=>exact h.qe true
 |some tw=>
  obtain⟨t,want⟩:=tw
  show P2 o.op want E (look E.e t)=P2 o.op want E' (look E'.e t)
  rw[h.g t want hg]
  unfold P2
  split
  ·rw[h.qe]
  ·rw[h.qe]
  ·rfl
def Y.MT{o:ar}{v:AV}(hy:Y P E o v)(h:J6 o E E'):Y P E' o v:=by
 cases hy with
 |pure _ _ hq=>exact .pure o v (by rw[<-h.qv];exact hq)
 |px d x hi=>
  have hx:=h.xs x PE
  rw[hx]at hi⊢
  exact .px d x hi
 |call d f args as rs h1 h2 h3=>exact .call d f args as rs (by rw[<-iK args (h.xg true)];exact h1) h2 (by rw[<-h.s];exact h3)
 |Ko d f args t want g0 b rs h0 h2 h1=>
  refine .Ko d f args t want g0 b rs (by rw[<-h.g t want rfl];exact h0) h2 fun hb=>?_
  obtain⟨as,q1,q2⟩:=h1 hb
  exact⟨as,by rw[<-iK args (h.xg true)];exact q1,by rw[<-h.s];exact q2⟩
 |iL d x args f as rs h1 hf h2 h3=>
  obtain⟨first,fC,xs,q1,q2,q3⟩:=h1
  exact .iL d x args f as rs ⟨first,fC,xs,by rw[<-h.xg true x List.mem_cons_self];exact q1,by rw[<-iK args fun y hy=>h.xg true y (List.mem_cons_of_mem _ hy)];exact q2,q3⟩ hf h2 (by rw[<-h.s];exact h3)
 |CJ d x args t want g0 b rs h0 h2 h1=>
  refine .CJ d x args t want g0 b rs (by rw[<-h.g t want rfl];exact h0) h2 fun hb=>?_
  obtain⟨f,as,⟨first,fC,xs,q1,q2,q3⟩,q4,q5⟩:=h1 hb
  exact⟨f,as,⟨first,fC,xs,by rw[<-h.xg true x List.mem_cons_self];exact q1,by rw[<-iK args fun y hy=>h.xg true y (List.mem_cons_of_mem _ hy)];exact q2,q3⟩,q4,by rw[<-h.s];exact q5⟩
 |eff _ _ hq=>exact .eff o v (by rw[<-h.EW];exact hq)
theorem Yf(o:ar)(i:Nat):look (dr o E).e i=if kI o i=true then view (look E.e i)else look E.e i:=by
 unfold dr kI
 split
 ·rename_i x hop
  cases x with
  |c a=>simp[hop];rfl
  |t j=>
   show look ((j,view (look E.e j))::E.e) i=_
   grind [bj]
 grind
theorem jm(o:ar)(v:AV)(i:Nat):look (step E o v).e i=if o.dst=some i then v else if kI o i=true then view (look E.e i)else look E.e i:=by
 unfold step
 rw[<-Yf]
 cases hd:o.dst with
 |none=>grind [St.put,jH,dr]
 |some d=>
  show look ((d,v)::(ch (dr o E) v (some d)).e) i=_
  grind [bj,jH,dr]
theorem af7(o:ar):(dr o E).s=E.s/\(dr o E).lp=E.lp:=by
 unfold dr
 split
 ·rename_i x _
  cases x<;>exact⟨rfl,rfl⟩
 grind
theorem EA(o:ar)(v:AV):(step E o v).s=E.s:=by
 unfold step
 have:∀(τ:St) d x,(τ.put d x).s=τ.s:=fun τ d x=>IN
 grind [jH,dr,af7]
theorem LO(av:AV):bF (view av)=bF av:=by cases av<;>rfl
theorem DU(av:AV)(n off:Nat):l9 n off (view av)=l9 n off av:=by cases av<;>rfl
theorem kG{av:AV}(h:bF av=true)(n off:Nat):l9 n off av=none:=by cases av<;>first|rfl|(simp[bF]at h)
def YP{o:ar}{v:AV}(hf:bn E o.dst=true)(hv:bF v=true):∀p n,rd (step E o v) p n=rd E p n:=by
 intro p n
 cases p<;>try rfl
 ·rename_i b off
  show rk n off ((step E o v).s b)=rk n off (E.s b)
  rw[EA]
 ·rename_i d off
  show l9 n off (look (step E o v).e d)=l9 n off (look E.e d)
  rw[jm]
  by_cases hd:o.dst=some d
  ·rw[if_pos hd,kG hv]
   rw[hd]at hf
   exact(kG hf n off).symm
  ·grind [DU]
def Kb{o y:ar}{v:AV}(hf:bn E y.dst=true)(hv:bF v=true)(hn:iP y.dst (cH o)=true)(hdr:U2 y o=true):J6 o E (step E y v):=by
 have key:∀i,i∈cH o->look (step E y v).e i=look E.e i:=by
  intro i hi
  have h1:¬kI y i=true:=by
   have:=List.all_eq_true.1 hdr i hi
   simpa using this
  rw[jm,if_neg,if_neg h1]
  intro hd
  rw[hd]at hn
  simp[iP]at hn
  exact hn hi
 refine⟨fun x hx=>?_,fun t want hg=>?_,(EA y v).symm,fun x _ g n=>(YP hf hv _ n).symm⟩
 ·cases x with
  |c a=>rfl
  |t i=>exact(key i (List.mem_append_right _ (iO hx))).symm
 ·exact(key t (List.mem_append_left _ Xc4)).symm
structure l6(E E':St):Prop where
 e:∀i,look E.e i=look E'.e i
 lp:∀x,x∈E.lp↔x∈E'.lp
 s:E.s=E'.s
theorem l6.refl(E:St):l6 E E:=⟨fun _=>rfl,fun _=>Iff.rfl,rfl⟩
theorem l6.symm(h:l6 E E'):l6 E' E:=⟨fun i=>(h.e i).symm,fun x=>(h.lp x).symm,h.s.symm⟩
def l6.trans{E₃:St}(h:l6 E E')(k:l6 E' E₃):l6 E E₃:=⟨fun i=>(h.e i).trans (k.e i),fun x=>(h.lp x).trans (k.lp x),h.s.trans k.s⟩
theorem l6.rd(h:l6 E E'):∀p n,AB.rd E p n=AB.rd E' p n:=by
 intro p n
 cases p<;>try rfl
 ·rename_i b off
  show rk n off (E.s b)=rk n off (E'.s b)
  rw[h.s]
 ·rename_i d off
  show l9 n off (look E.e d)=l9 n off (look E'.e d)
  rw[h.e]
def l6.MT(h:l6 E E')(o:ar):J6 o E E':=⟨fun x _=>by cases x with
 |c a=>rfl
 |t i=>exact h.e i,fun t _ _=>h.e t,h.s,fun x _ g n=>h.rd _ n⟩
theorem l6.free(h:l6 E E')(d:Option Nat):bn E d=bn E' d:=by
 cases d with
 |none=>rfl
 |some d=>show bF (look E.e d)=bF (look E'.e d);rw[h.e]
theorem Dx:∀(v:AV)(d:Option Nat)(x:Nat×Nat),x∈(ch E v d).lp↔(x∈E.lp\/∃i,d=some i/\x.1=i/\bO v x.2)
 |.lp t off,some i,(x1,x2)=>by
  show(x1,x2)∈(i,t)::E.lp↔_
  rw[List.mem_cons]
  constructor
  ·rintro(h|h)
   ·injection h with h1 h2;exact .inr ⟨i,rfl,h1,h2.symm⟩
   grind
  ·rintro(h|⟨j,h1,h2,h3⟩)
   ·exact .inr h
   ·have h3':t=x2:=h3
    grind
 |.lp t off,none,x=>⟨fun h=>.inl h,fun h=>h.elim id fun⟨_,h1,_⟩=>A_⟩
 |.when _ v,d,x=>Dx v d x
 |.undef,_,_|.bool _,_,_|.int _ _,_,_|.str _,_,_|.fM,_,_|.ref _ _,_,_|.sp _,_,_|.loc _,_,_|.sl _ _ _ _,_,_|.arr _ _ _ _,_,_|.agg _,_,_|.iJ _,_,_|.fn _ _ _,_,_|.pP,_,_|.mp _,_,_|.uf,_,_|.us _ _ _,_,_|.one,_,_|.oQ _,_,_|.mw,_,_|.bb _ _ _,_,_=>⟨fun h=>.inl h,fun h=>h.elim id fun⟨_,_,_,h3⟩=>h3.elim⟩
theorem JL(o:ar)(v:AV)(x:Nat×Nat):x∈(step E o v).lp↔(x∈E.lp\/∃i,o.dst=some i/\x.1=i/\bO v x.2):=by
 have h1:(step E o v).lp=(ch (dr o E) v o.dst).lp:=by unfold step;cases o.dst<;>rfl
 grind [af7,Dx]
def Inv.eqv(h:Inv G n D E a w)(k:l6 E E'):Inv G n D E' a w:=
 ⟨h.bc,by rw[<-k.s];exact h.store,h.size,fun i v hv=>by
   rw[<-k.e i]
   exact dZ.frame (fun _ _ hv=>hv) (fun b _=>⟨rfl,rfl,rfl⟩) (fun _ _ _ _ hc=>⟨hc,rfl,rfl⟩) _ _ (fun t _ cs hcs=>⟨cs,by rw[k.e];exact hcs,rfl⟩) (h.cH i v hv),
   fun i hi=>by rw[<-k.e i];exact h.E6 i hi,fun i t ht=>(k.lp _).1 (h.MG i t (by rw[k.e];exact ht)),h.qL⟩
theorem l6.step(h:l6 E E')(o:ar)(v:AV):l6 (AB.step E o v) (AB.step E' o v):=⟨fun i=>by rw[jm,jm,h.e],fun x=>by rw[JL,JL,h.lp],by rw[EA,EA,h.s]⟩
def RV{x y:ar}{u v:AV}(hne:∀i j,x.dst=some i->y.dst=some j->i≠j)(hxy:∀i,y.dst=some i->kI x i=false)(hyx:∀i,x.dst=some i->kI y i=false):l6 (step (step E x u) y v) (step (step E y v) x u):=
 ⟨fun i=>by
   rw[jm,jm,jm,jm]
   grind,fun z=>by
   grind [JL],by grind [EA]⟩
end
section
variable{P:Program}{G G':Gh}{n:Nat}{D:List Deferred}{E E':St}{a:Act}{w w':World}
def Inv.vj{d:Option Nat}{av:AV}(h:Inv G n D (E.put d (.iJ [])) a w)(hd:bq n d=true)(hnl:∀t,¬bO av t):Inv G n D (E.put d (.when false av)) a w:=by
 cases d with
 |none=>exact h
 |some i=>
  have hi:=by simpa[bq]using hd
  have e1:look (E.put (some i) (.iJ [])).e i=.iJ []:=Z_
  have:=h.L9 i hi (.when false av) hnl (fun cs e=>A_) (fun v hv=>by
   have hs:=h.cH i v hv
   rw[e1]at hs
   obtain⟨ys,rfl,h2⟩:=hs
   refine⟨fun hh=>Bool.noConfusion hh,fun _=>?_⟩
   have:=Array.eq_empty_of_size_eq_zero (by simpa using h2.1)
   rw[this])
  refine this.eqv ⟨fun j=>?_,fun _=>Iff.rfl,rfl⟩
  grind [St.put,bj]
def uZ{rs:List AV}(h:ko rs=true)(t:Nat):¬bO (fO rs) t:=by
 match rs,h with
 |[],_=>exact fun h=>h
 |[r],h=>exact Eo h t
 |_::_::_,_=>exact fun h=>h
def Vx{op:rF}{d:Option Nat}{v:AV}{K:St->Prop}(h:qe (xg true E) E.s op=.c8 v\/∃c,qe (xg true E) E.s op=.prt c v/\c)(hk:K (E.put d v)):ju P op d E K:=by
 cases op<;>first|(rcases h with h|⟨c,h,_⟩<;>cases h;done)|skip
 case lookup kk z ok x k=>
  show Sj E d K (kN kk z ok E.s (xg true E k) (xg true E x))
  have h':kN kk z ok E.s (xg true E k) (xg true E x)=.c8 v\/∃c,kN kk z ok E.s (xg true E k) (xg true E x)=.prt c v/\c:=h
  rcases h' with h'|⟨c,h',hc⟩<;>rw[h']
  ·exact hk
  ·exact⟨hc,hk⟩
 case vJ x=>
  show Sj E d K (EH (xg true E x))
  have h':EH (xg true E x)=.c8 v\/∃c,EH (xg true E x)=.prt c v/\c:=h
  rcases h' with h'|⟨c,h',hc⟩<;>rw[h']
  ·exact hk
  ·exact⟨hc,hk⟩
 case oY x=>
  show Sj E d K (FY (xg true E x))
  have h':FY (xg true E x)=.c8 v\/∃c,FY (xg true E x)=.prt c v/\c:=h
  rcases h' with h'|⟨c,h',hc⟩<;>rw[h']
  ·exact hk
  ·exact⟨hc,hk⟩
 case ik sz m z ps=>
  show xS sz m E d K (fill (xg true E) z ps)
  have h':HA sz m (fill (xg true E) z ps)=.c8 v\/∃c,HA sz m (fill (xg true E) z ps)=.prt c v/\c:=h
  cases hx:fill (xg true E) z ps<;>rw[hx]at h'
  ·rcases h' with h'|⟨c,h',_⟩<;>cases h'
  ·rcases h' with h'|⟨c,h',hc⟩
   ·cases h'
   ·injection h' with h1 h2;subst h1;subst h2;exact⟨hc,hk⟩
theorem Y.run(h:Inv G n D E a w){ops:Array Oper}{o:Oper}{o':ar}{v:AV}(hc:iW P n ops o o'=true)(hy:Y P E o' v){next:Act->World->Prop}{Q:Exit->Act->World->Prop}
 (hn:∀G' a' w',Inv G' n D (step E o' v) a' w'->aI G w G' w'->next a' w'):BM P ops o a w next Q:=by
 have gen:MF P o' E (fun τ=>τ=step E o' v)->BM P ops o a w next Q:=fun hg=>iu h hc hg fun G' E' a' w' h1 h2 h3=>A_
 cases hy with
 |px d x hi=>
  refine gen ?_
  show UU E x d (fun τ=>τ=step E ⟨d,.px true x,none⟩ (E.x x)) (E.x x)
  refine⟨hi,?_⟩
  show _=(ch (E.drain x) (E.x x) d).put d (E.x x)
  rw[Lm hi]
 |pure _ _ hq=>
  have hdr:dr o' E=E:=Th A_
  have ez:step E o' v=(ch E v o'.dst).put o'.dst v:=by unfold step;rw[hdr]
  rw[ez]at hn gen
  obtain⟨d,op,g⟩:=o'
  cases g with
  |none=>
   refine gen ?_
   show nxt P op E d (fun τ=>τ=(ch E v d).put d v) (pv op (xg true E) E)
   have hq':(pv op (xg true E) E=.c8 v\/∃c,pv op (xg true E) E=.prt c v/\c):=hq
   rcases hq' with hq|⟨c,hq,hcc⟩
   ·rw[hq];rfl
   ·rw[hq];exact⟨hcc,rfl⟩
  |some tw=>
   obtain⟨t,want⟩:=tw
   have hq':(Ol op want E (look E.e t)=.c8 v\/∃c,Ol op want E (look E.e t)=.prt c v/\c):=hq
   rcases adG (o:=op) (want:=want) (E:=E) (a:=look E.e t)with⟨g0,b,hg0,hl⟩|hl<;>rw[hl]at hq'
   case inr=>grind
   have hgs:=fun K=>Cg (P:=P) (o:=op) (d:=d) (t:=t) (want:=want) (E:=E) (K:=K) hg0
   generalize(g0&&(b==want))=gg at hq' hgs
   have hq2:(Zx (rdO op) gg (pv op (xg gg E) E)=.c8 v\/∃c,Zx (rdO op) gg (pv op (xg gg E) E)=.prt c v/\c):=hq'
   cases hp:pv op (xg gg E) E with
   |c8 x=>
    refine gen ?_
    show zH P op d t want E _ (look E.e t)
    rw[hgs]
    show Si P gg op E d (fun τ=>τ=(ch E v d).put d v) (pv op (xg gg E) E)
    rw[hp]
    rw[hp]at hq2
    rcases hq2 with hq|⟨c,hq,_⟩
    ·injection hq with hq;subst hq;rfl
    ·cases hq
   |prt c x=>
    refine gen ?_
    show zH P op d t want E _ (look E.e t)
    rw[hgs]
    show Si P gg op E d (fun τ=>τ=(ch E v d).put d v) (pv op (xg gg E) E)
    rw[hp]
    rw[hp]at hq2
    rcases hq2 with hq|⟨c',hq,hcc⟩
    ·cases hq
    ·injection hq with hq1 hq2;subst hq1;subst hq2;exact⟨hcc,rfl⟩
   |no=>
    rw[hp]at hq2
    cases hr:rdO op with
    |false=>
     rw[hr]at hq2
     have hq3:(PR.no=.c8 v\/∃c,PR.no=.prt c v/\c):=hq2
     grind
    |true=>
     rw[hr]at hq2
     have hq3:(PR.prt (gg=false) (.when gg .undef)=.c8 v\/∃c,PR.prt (gg=false) (.when gg .undef)=.prt c v/\c):=hq2
     rcases hq3 with hq|⟨c',hq,hcc⟩
     ·cases hq
     injection hq with hq1 hq2
     subst hq1;subst hq2
     have hd:bq n d=true:=by
      simp only[iW,Bool.and_eq_true]at hc
      exact hc.1.1.2
     refine iu (K:=fun τ=>τ=E.put d (.iJ [])) h hc ?_ fun G' E' a' w' k1 k2 k3=>?_
     ·show zH P op d t want E (fun τ=>τ=E.put d (.iJ [])) (look E.e t)
      rw[hgs]
      show Si P gg op E d (fun τ=>τ=E.put d (.iJ [])) (pv op (xg gg E) E)
      rw[hp]
      exact⟨fun hb=>absurd (hb.symm.trans hcc) B_,fun _=>rfl⟩
     ·subst k3
      have e:(ch E (.when gg .undef) d).put d (.when gg .undef)=E.put d (.when false .undef):=by
       rw[hcc]
       have:ch E (.when false .undef) d=E:=IN
       show(ch E (.when false .undef) d).put d _=_
       rw[this]
      have hn':=hn
      simp only at hn'
      rw[e]at hn'
      exact hn' G' a' w' (k1.vj hd (fun _ h=>h)) k2
 |call d f args as rs h1 h2 h3=>
  refine gen ?_
  show vT P f E d _ (cL (xg true E) args)
  rw[h1]
  refine FE.app h3 ⟨h2,?_⟩
  show _=(ch E (fO rs) d).put d (fO rs)
  rw[qa h2]
 |Ko d f args t want g0 b rs h0 h2 h1=>
  have hd:bq n d=true:=by
   simp only[iW,Bool.and_eq_true]at hc
   exact hc.1.1.2
  have ez:step E ⟨d,.call f args,some (t,want)⟩ (.when (g0&&(b==want)) (fO rs))=E.put d (.when (g0&&(b==want)) (fO rs)):=by
   show(ch E (.when (g0&&(b==want)) (fO rs)) d).put d (.when (g0&&(b==want)) (fO rs))=_
   have:ch E (.when (g0&&(b==want)) (fO rs)) d=E:=qa h2 E d
   rw[this]
  rw[ez]at hn
  refine iu (K:=fun τ=>((g0&&(b==want))=true/\τ=E.put d (fO rs))\/((g0&&(b==want))=false/\τ=E.put d (.iJ []))) h hc ?_ fun G' E' a' w' k1 k2 k3=>?_
  ·show zH P (.call f args) d t want E _ (look E.e t)
   rw[Cg h0]
   refine⟨fun hb=>?_,fun hb=>.inr ⟨hb,rfl⟩⟩
   obtain⟨as,q1,q2⟩:=h1 hb
   show vT P f E d _ (cL (xg true E) args)
   rw[q1]
   exact FE.app q2 ⟨h2,.inl ⟨hb,rfl⟩⟩
  ·rcases k3 with⟨hb,rfl⟩|⟨hb,rfl⟩
   ·rw[hb]at hn;exact hn G' a' w' (k1.uE hd) k2
   ·rw[hb]at hn;exact hn G' a' w' (k1.vj hd (uZ h2)) k2
 |iL d x args f as rs h1 hf h2 h3=>
  obtain⟨first,fC,xs,q1,q2,rfl⟩:=h1
  refine gen ?_
  show wP P E (cL (xg true E) args) d _ (xg true E x)
  rw[q1,q2]
  refine⟨hf,FE.app h3 ⟨h2,?_⟩⟩
  show _=(ch E (fO rs) d).put d (fO rs)
  rw[qa h2]
 |CJ d x args t want g0 b rs h0 h2 h1=>
  have hd:bq n d=true:=by
   simp only[iW,Bool.and_eq_true]at hc
   exact hc.1.1.2
  have ez:step E ⟨d,.iL x args,some (t,want)⟩ (.when (g0&&(b==want)) (fO rs))=E.put d (.when (g0&&(b==want)) (fO rs)):=by
   show(ch E (.when (g0&&(b==want)) (fO rs)) d).put d (.when (g0&&(b==want)) (fO rs))=_
   have:ch E (.when (g0&&(b==want)) (fO rs)) d=E:=qa h2 E d
   rw[this]
  rw[ez]at hn
  refine iu (K:=fun τ=>((g0&&(b==want))=true/\τ=E.put d (fO rs))\/((g0&&(b==want))=false/\τ=E.put d (.iJ []))) h hc ?_ fun G' E' a' w' k1 k2 k3=>?_
  ·show zH P (.iL x args) d t want E _ (look E.e t)
   rw[Cg h0]
   refine⟨fun hb=>?_,fun hb=>.inr ⟨hb,rfl⟩⟩
   obtain⟨f,as,⟨first,fC,xs,q1,q2,rfl⟩,q4,q5⟩:=h1 hb
   show wP P E (cL (xg true E) args) d _ (xg true E x)
   rw[q1,q2]
   exact⟨q4,FE.app q5 ⟨h2,.inl ⟨hb,rfl⟩⟩⟩
  ·rcases k3 with⟨hb,rfl⟩|⟨hb,rfl⟩
   ·rw[hb]at hn;exact hn G' a' w' (k1.uE hd) k2
   ·rw[hb]at hn;exact hn G' a' w' (k1.vj hd (uZ h2)) k2
 |eff _ _ hq=>
  obtain⟨_,hnl,hlp,hdr⟩:=Vw hq
  have ez:step E o' v=E.put o'.dst v:=by unfold step;rw[hdr,hlp]
  obtain⟨d,op,g⟩:=o'
  cases g with
  |none=>
   refine gen ?_
   have hq':qe (xg true E) E.s op=.c8 v\/∃c,qe (xg true E) E.s op=.prt c v/\c:=hq
   show nxt P op E d (fun τ=>τ=step E ⟨d,op,none⟩ v) (pv op (xg true E) E)
   rw[(DT (hq'.imp id fun⟨c,h,_⟩=>⟨c,h⟩)).2.1]
   exact Vx hq' ez.symm
  |some tw=>
   obtain⟨t,want⟩:=tw
   have hd:bq n d=true:=by
    simp only[iW,Bool.and_eq_true]at hc
    exact hc.1.1.2
   have hq':P2 op want E (look E.e t)=.c8 v\/∃c,P2 op want E (look E.e t)=.prt c v/\c:=hq
   rcases Vv (o:=op) (want:=want) (E:=E) (a:=look E.e t)with⟨g0,b,hg0,hl⟩|hl<;>rw[hl]at hq'
   case inr=>grind
   have hgs:=fun K=>Cg (P:=P) (o:=op) (d:=d) (t:=t) (want:=want) (E:=E) (K:=K) hg0
   generalize(g0&&(b==want))=gg at hq' hgs
   obtain⟨u,hu,hv⟩:∃u,(gg=true->(qe (xg true E) E.s op=.c8 u\/∃c,qe (xg true E) E.s op=.prt c u/\c))/\v=.when gg u:=by
    have h2:Sl gg (qe (xg gg E) E.s op)=.c8 v\/∃c,Sl gg (qe (xg gg E) E.s op)=.prt c v/\c:=hq'
    cases hq2:qe (xg gg E) E.s op with
    |c8 u=>
     rw[hq2]at h2
     refine⟨u,fun hb=>?_,?_⟩
     ·grind
     ·rcases h2 with h2|⟨c,h2,_⟩
      ·injection h2 with h2;exact h2.symm
      ·cases h2
    |prt c u=>
     rw[hq2]at h2
     rcases h2 with h2|⟨c',h2,hc'⟩
     ·cases h2
     ·injection h2 with h3 h4
      grind
    |no=>rw[hq2]at h2;rcases h2 with h2|⟨c,h2,_⟩<;>cases h2
   subst hv
   have hpn:∀f τ,pv op f τ=.no:=by
    intro f τ
    have h2:Sl gg (qe (xg gg E) E.s op)=.c8 _\/∃c,Sl gg (qe (xg gg E) E.s op)=.prt c _/\c:=hq'
    cases op<;>first|rfl|(rcases h2 with h2|⟨c,h2,_⟩<;>cases h2)
   rw[ez]at hn
   refine iu (K:=fun τ=>(gg=true/\τ=E.put d u)\/(gg=false/\τ=E.put d (.iJ []))) h hc ?_ fun G' E' a' w' k1 k2 k3=>?_
   ·show zH P op d t want E _ (look E.e t)
    rw[hgs,hpn]
    unfold Si
    refine⟨fun hb=>?_,fun hb=>.inr ⟨hb,rfl⟩⟩
    show nxt P op E d _ (pv op (xg true E) E)
    rw[hpn]
    exact Vx (hu hb) (.inl ⟨hb,rfl⟩)
   ·rcases k3 with⟨hb,rfl⟩|⟨hb,rfl⟩
    ·rw[hb]at hn;exact hn G' a' w' (k1.uE hd) k2
    ·rw[hb]at hn;exact hn G' a' w' (k1.vj hd fun t ht=>hnl t ht) k2
theorem P3{ops:Array Oper}{Q:Exit->Act->World->Prop}{K:St->Prop}(G₀:Gh)(w₀:World)
 (hn:∀G' E' a' w',Inv G' n D E' a' w'->aI G₀ w₀ G' w'->K E'->Q .normal a' w'):∀(q:Nat)(l:List Oper)(l':List ar)(G:Gh)(E:St)(a:Act)(w:World),cI P n ops l l'=true->Inv G n D E a w->aI G₀ w₀ G w->qwp P q l' E K->wpList P ops Q l a w
 |0,l,l',G,E,a,w,hc,h,hp,hk=>rA G₀ w₀ hn l l' G E a w hc h hp hk
 |_+1,[],[],G,E,a,w,_,h,hp,hk=>hn G E a w h hp hk
 |q+1,o::l,o'::l',G,E,a,w,hc,h,hp,hk=>by
  simp[cI,Bool.and_eq_true]at hc
  obtain⟨hf,hk⟩:=hk
  obtain⟨v,hv,hy,hk⟩:=Oi hk
  exact hy.run h hc.1 fun G' a' w' h1 h2=>P3 G₀ w₀ hn q l l' G' _ a' w' hc.2 h1 (hp.trans h2) hk
 |_+1,[],_::_,_,_,_,_,hc,_,_,_=>by simp[cI]at hc
 |_+1,_::_,[],_,_,_,_,hc,_,_,_=>by simp[cI]at hc
abbrev te:=List (Nat×ar×AV)
def xG(P:Program):St->te->Prop
 |_,[]=>True
 |E,(_,o,v)::r=>bn E o.dst=true/\bF v=true/\Y P E o v/\xG P (step E o v) r
def fin:St->te->St
 |E,[]=>E
 |E,(_,o,v)::r=>fin (step E o v) r
def xG.eqv:∀{p:te}{E E':St},l6 E E'->xG P E p->xG P E' p
 |[],_,_,_,_=>trivial
 |(_,o,v)::r,_,_,h,⟨h1,h2,h3,h4⟩=>⟨by rw[<-h.free];exact h1,h2,h3.MT (h.MT o),xG.eqv (h.step o v) h4⟩
def Pm:∀(p:te){E E':St},l6 E E'->l6 (fin E p) (fin E' p)
 |[],_,_,h=>h
 |(_,o,v)::r,_,_,h=>Pm r (h.step o v)
theorem E8{o:ar}{i:Nat}(h:kI o i=true):i∈cH o:=by
 unfold kI at h
 split at h
 ·rename_i j hop
  have:j=i:=A_
  subst this
  refine List.mem_append_right _ ?_
  rw[hop]
  exact List.mem_cons_self
 ·cases h
def WL{x y:ar}(h:ap x y=true):iP x.dst (cH y)=true/\iP y.dst (cH x)=true/\(∀i j,x.dst=some i->y.dst=some j->i≠j)/\U2 x y=true/\U2 y x=true/\(∀i,y.dst=some i->kI x i=false)/\(∀i,x.dst=some i->kI y i=false):=by
 unfold ap at h
 grind [iP,kI,absurd,E8]
def pull{x:Nat×ar×AV}:∀(pre:te)(post:te)(E:St),(∀y∈pre,ap y.2.1 x.2.1=true)->xG P E (pre++x::post)->
 bn E x.2.1.dst=true/\bF x.2.2=true/\Y P E x.2.1 x.2.2/\xG P (step E x.2.1 x.2.2) (pre++post)/\l6 (fin (step E x.2.1 x.2.2) (pre++post)) (fin E (pre++x::post))
 |[],post,E,_,h=>⟨h.1,h.2.1,h.2.2.1,h.2.2.2,l6.refl _⟩
 |(k,o,v)::pre,post,E,hap,h=>by
  obtain⟨h1,h2,h3,h4⟩:=h
  obtain⟨i1,i2,i3,i4,i5⟩:=pull pre post (step E o v) (fun y hy=>hap y (List.mem_cons_of_mem _ hy)) h4
  obtain⟨a1,a2,a3,a4,a5,a6,a7⟩:=WL (hap (k,o,v) List.mem_cons_self)
  have hfx:bn E x.2.1.dst=true:=by
   cases hd:x.2.1.dst with
   |none=>rfl
   |some j=>
    rw[hd]at i1
    have i1':bF (look (step E o v).e j)=true:=i1
    rw[jm]at i1'
    show bF (look E.e j)=true
    grind
  have hfo:bn (step E x.2.1 x.2.2) o.dst=true:=by
   cases hd:o.dst with
   |none=>rfl
   |some j=>
    rw[hd]at h1
    show bF (look (step E x.2.1 x.2.2).e j)=true
    rw[jm,if_neg (fun e=>a3 j j hd e rfl)]
    split
    ·grind
    ·exact h1
  have GL:l6 (step (step E o v) x.2.1 x.2.2) (step (step E x.2.1 x.2.2) o v):=RV a3 a6 a7
  refine⟨hfx,i2,i3.MT (Kb h1 h2 a1 a4).symm,⟨hfo,h2,h3.MT (Kb hfx i2 a2 a5),i4.eqv GL⟩,?_⟩
  exact(Pm (pre++post) GL.symm).trans i5
end
section
variable{P:Program}{G G':Gh}{n:Nat}{D:List Deferred}{E E':St}{a:Act}{w w':World}{ops:Array Oper}{bQ:List ar}{q:Nat}
def mk:Nat->List ar->List AV->te
 |k,o::l,v::vs=>(k,o,v)::mk (k+1) l vs
 |_,_,_=>[]
def L8{K:St->Prop}:∀(q:Nat)(l:List ar)(E:St)(k:Nat),q<=l.length->qwp P q l E K->∃vs:List AV,vs.length=q/\xG P E (mk k l vs)/\swp P (l.drop q) (fin E (mk k l vs)) K
 |0,l,E,k,_,h=>⟨[],rfl,by cases l<;>trivial,by cases l<;>exact h⟩
 |q+1,[],_,_,hl,_=>by grind
 |q+1,o::l,E,k,hl,h=>by
  obtain⟨hf,h1⟩:=h
  obtain⟨v,hv,hy,hk⟩:=Oi h1
  obtain⟨vs,h2,h3,h4⟩:=L8 q l (step E o v) (k+1) A_ hk
  exact⟨v::vs,A_,⟨hf,hv,hy,h3⟩,h4⟩
def I9:∀(l:List ar)(vs:List AV)(k:Nat)(i:Nat)(o:ar)(v:AV),(i,o,v)∈mk k l vs->∃j,i=k+j/\j<vs.length/\l[j]? =some o
 |[],_,_,_,_,_,h=>by simp[mk]at h
 |_::_,[],_,_,_,_,h=>by simp[mk]at h
 |o'::l,v'::vs,k,i,o,v,h=>by
  rcases List.mem_cons.1 h with h|h
  ·simp_all
  ·obtain⟨j,h1,h2,h3⟩:=I9 l vs (k+1) i o v h
   exact⟨j+1,AT,A_,A_⟩
def Ac:∀(l:List ar)(vs:List AV)(k:Nat),(mk k l vs).Pairwise fun x y=>x.1<y.1
 |[],_,_=>by simp[mk]
 |_::_,[],_=>by simp[mk]
 |o::l,v::vs,k=>by
  refine List.Pairwise.cons (fun y hy=>?_) (Ac l vs (k+1))
  obtain⟨i,o',v'⟩:=y
  obtain⟨j,h1,_⟩:=I9 l vs (k+1) i o' v' hy
  omega
def N5:∀(l:List ar)(vs:List AV)(k j:Nat),j<vs.length->j<l.length->∃o v,(k+j,o,v)∈mk k l vs
 |[],_,_,_,_,h=>by grind
 |_::_,[],_,_,h,_=>by grind
 |o::l,v::vs,k,0,_,_=>⟨o,v,List.mem_cons_self⟩
 |o::l,v::vs,k,j+1,h1,h2=>by
  obtain⟨o',v',h⟩:=N5 l vs (k+1) j A_ A_
  refine⟨o',v',List.mem_cons_of_mem _ ?_⟩
  grind
def gB:∀(l:List Oper)(l':List ar),cI P n ops l l'=true->l.length=l'.length/\∀(k:Nat)(o:Oper)(o':ar),l[k]? =some o->l'[k]? =some o'->iW P n ops o o'=true
 |[],[],_=>⟨rfl,fun k o o' h=>BY⟩
 |o::l,o'::l',h=>by
  simp[cI,Bool.and_eq_true]at h
  obtain⟨h1,h2⟩:=gB l l' h.2
  refine⟨A_,fun k x x' hx hx'=>?_⟩
  cases k with
  |zero=>simp at hx hx';subst hx;subst hx';exact h.1
  |succ k=>exact h2 k x x' A_ A_
 |[],_::_,h=>by simp[cI]at h
 |_::_,[],h=>by simp[cI]at h
def pJ{Q:Exit->Act->World->Prop}{i:Nat}{o:Oper}{next:Act->World->Prop}(ho:ops[i]? =some o)(h:BM P ops o a w next Q):wpOp P ops Q i next a w:=by
 unfold wpOp
 simp[ho]
 exact h
theorem mU{j i:Nat}{o:Oper}(ho:ops[j]? =some o):iU ops j i=true↔∃e∈o.after,Region.binds .any e=true/\e.on=i:=by
 unfold iU
 rw[ho]
 rw[Array.any_eq_true']
 grind
def xC{K:St->Prop}{Q:Exit->Act->World->Prop}(G₀:Gh)(w₀:World)(hc:cI P n ops ops.toList bQ=true)
 (hn:∀G' E' a' w',Inv G' n D E' a' w'->aI G₀ w₀ G' w'->K E'->Q .normal a' w'):∀(l:List ar)(k:Nat)(aS:Array Bool)(G:Gh)(E:St)(a:Act)(w:World),l=bQ.drop k->rQ ops l.length k aS=true->
 swp P l E K->Inv G n D E a w->aI G₀ w₀ G w->wpAny P .any ops Q l.length aS a w
 |[],_,aS,G,E,a,w,_,ht,hk,h,hp=>⟨List.isEmpty_iff.1 ht,hn G E a w h hp hk⟩
 |o'::l,k,aS,G,E,a,w,hl,ht,hk,h,hp=>by
  have ht':(Region.ready .any ops aS==[k]&&rQ ops l.length (k+1) (aS.setIfInBounds k true))=true:=ht
  simp[Bool.and_eq_true,beq_iff_eq]at ht'
  obtain⟨hr,ht'⟩:=ht'
  obtain⟨hlen,kq⟩:=gB _ _ hc
  have hk':=by
   have:(bQ.drop k)[0]? =some o':=A_
   simpa using this
  have agq:l=bQ.drop (k+1):=by
   have:(bQ.drop k).tail=l:=A_
   rw[<-this];simp
  have XH:k<ops.toList.length:=A_
  have ho:=List.getElem?_eq_getElem XH
  refine⟨fun h0=>absurd h0 A_,fun i hi=>?_⟩
  rw[hr]at hi
  have:i=k:=A_
  subst this
  refine pJ BY (iu h (kq i _ _ ho hk') hk fun G' E' a' w' h1 h2 h3=>?_)
  exact xC G₀ w₀ hc hn l (i+1) _ G' E' a' w' agq ht' h3 h1 (hp.trans h2)
structure Good(ops:Array Oper)(bQ:List ar)(q:Nat)(kZ:te)(aS:Array Bool):Prop where
 size:aS.size=ops.size
 un:∀k o v,(k,o,v)∈kZ->k<q/\aS.getD k true=false/\bQ[k]? =some o
 li:∀k,k<q->(∀o v,(k,o,v)∉kZ)->aS.getD k false=true
 tl:∀j,q<=j->j<ops.size->aS.getD j true=false
 cl:∀m,m<q->aS.getD m false=true->∀i,iU ops m i=true->aS.getD i false=true
 sorted:kZ.Pairwise fun x y=>x.1<y.1
def yh{l:Array Bool}{i:Nat}(h:l.getD i false=true):l.getD i true=true:=A_
theorem Qj{aS:Array Bool}(hg:Good ops bQ q [] aS):aS=qA ops.size q:=by
 apply Array.ext
 ·simp[qA,hg.size]
 ·intro i h1 h2
  simp[qA,Array.getElem_map]
  have hi:i<ops.size:=by rw[<-hg.size];exact h1
  by_cases hq:i<q
  ·have:=hg.li i hq (fun o v=>BY)
   simp_all
  ·have:=hg.tl i AT hi
   simp_all
def kX{j:Nat}{aS:Array Bool}(h:j∈Region.ready .any ops aS):j<ops.size/\aS.getD j true=false/\∀i,iU ops j i=true->aS.getD i false=true:=by grind [mem_ready,Array.getElem?_eq_some_iff,mU]
def GK{pre post:te}{x:Nat×ar×AV}{aS:Array Bool}(hg:Good ops bQ q (pre++x::post) aS)(hr:x.1∈Region.ready .any ops aS):Good ops bQ q (pre++post) (aS.setIfInBounds x.1 true):=by
 obtain⟨xk,xo,xv⟩:=x
 obtain⟨r1,r2,r3⟩:=kX hr
 have hxq:xk<q:=(hg.un xk xo xv BY).1
 have hxs:xk<aS.size:=Xc5
 have fX:∀y,y∈pre++post->y∈pre++(xk,xo,xv)::post:=fun y hy=>A_
 have AW:=List.pairwise_append.1 hg.sorted
 have XK:∀y∈pre,y.1<xk:=fun y hy=>AW.2.2 y hy (xk,xo,xv) List.mem_cons_self
 have aat:∀y∈post,xk<y.1:=fun y hy=>(List.pairwise_cons.1 AW.2.1).1 y hy
 have hne:∀y∈pre++post,y.1≠xk:=fun y hy=>A_
 refine⟨by simp[hg.size],fun k o v hk=>?_,fun k hk hno=>?_,fun j h1 h2=>?_,fun m hm hl i hi=>?_,?_⟩
 ·obtain⟨u1,u2,u3⟩:=hg.un k o v (fX _ hk)
  exact⟨u1,by rw[getD_set_ne true (Ne.symm (hne _ hk))];exact u2,u3⟩
 ·by_cases hkx:xk=k
  ·simp_all
  ·rw[getD_set_ne false hkx]
   refine hg.li k hk fun o v hm=>?_
   grind
 ·rw[getD_set_ne true AT];exact hg.tl j h1 h2
 ·by_cases hmx:xk=m
  ·grind [getD_set_true]
  ·rw[getD_set_ne false hmx]at hl
   exact getD_set_true (hg.cl m hm hl i hi)
 grind
def VQ{Q:Exit->Act->World->Prop}(G₀:Gh)(w₀:World)(f:Nat)(hc:cI P n ops ops.toList bQ=true)(hq:q<=ops.size)(h1:O0 ops q=true)(h2:Gq ops q=true)(h3:Z6 ops q bQ=true)(h4:q<ops.size->Region.ready .any ops (qA ops.size q)=[q]):
 ∀(m:Nat)(kZ:te),kZ.length=m->∀(aS:Array Bool)(E:St),Good ops bQ q kZ aS->xG P E kZ->
  (∀G a w,Inv G n D (fin E kZ) a w->aI G₀ w₀ G w->wpAny P .any ops Q f (qA ops.size q) a w)->∀(G:Gh)(a:Act)(w:World),Inv G n D E a w->aI G₀ w₀ G w->wpAny P .any ops Q (m+f) aS a w:=by
 intro m
 induction m with
 |zero=>
  intro kZ hp aS E hg _ hT G a w h hpr
  have:kZ=[]:=List.eq_nil_of_length_eq_zero hp
  subst this
  rw[Qj hg,Nat.zero_add]
  exact hT G a w h hpr
 |succ m ih=>
  intro kZ hp aS E hg hch hT G a w h hpr
  obtain⟨hlen,kq⟩:=gB _ _ hc
  rw[show m+1+f=(m+f)+1 by omega]
  refine⟨fun h0=>?_,fun i hi=>?_⟩
  ·
   cases kZ with
   |nil=>simp at hp
   |cons x kZ=>
    obtain⟨k,o,v⟩:=x
    obtain⟨u1,u2,u3⟩:=hg.un k o v List.mem_cons_self
    have IJ:k∈Region.ready .any ops aS:=by
     have hk:k<ops.size:=AT
     refine mem_ready.2 ⟨u2,ops[k],Array.getElem?_eq_getElem hk,fun e he hb=>?_⟩
     have hs:=List.all_eq_true.1 h1 k (List.mem_range.2 u1)
     rw[Array.getElem?_eq_getElem hk]at hs
     have:=Array.all_eq_true_iff_forall_mem.1 hs e he
     rw[hb]at this
     have hlt:e.on<k:=by simpa using this
     refine hg.li e.on AT fun o' v' hm=>?_
     rcases List.mem_cons.1 hm with hm|hm
     ·grind
     ·have:=(List.pairwise_cons.1 hg.sorted).1 _ hm
      grind
    grind
  ·obtain⟨r1,r2,r3⟩:=kX hi
   have hne:∃k o v,(k,o,v)∈kZ:=by
    cases kZ with
    |nil=>simp at hp
    |cons x kZ=>grind
   have hiq:i<q:=by
    refine Classical.byContradiction fun hge=>?_
    have hqs:q<ops.size:=AT
    by_cases hiq':i=q
    ·subst hiq'
     have ee:∀(d k:Nat),k<i->i -k=d->aS.getD k false=true:=by
      intro d
      induction d using Nat.strongRecOn with
      |_ d ihd=>
       intro k hk hd
       have hs:((List.range i).all fun k=>(List.range (i+1)).any fun m=>decide (k<m)&&iU ops m k)=true:=by
        unfold Gq at h2
        rw[Bool.or_eq_true]at h2
        rcases h2 with h2|h2
        ·grind
        ·exact h2
       obtain⟨m',hm1,hm2⟩:=List.any_eq_true.1 (List.all_eq_true.1 hs k (List.mem_range.2 hk))
       rw[Bool.and_eq_true,decide_eq_true_eq]at hm2
       have akm:=List.mem_range.1 hm1
       by_cases hmi:m'=i
       ·grind
       ·exact hg.cl m' AT (ihd (i -m') AT m' AT rfl) k hm2.2
     obtain⟨k,o,v,hk⟩:=hne
     obtain⟨u1,u2,u3⟩:=hg.un k o v hk
     grind
    ·have hnr:i∉Region.ready .any ops (qA ops.size q):=by rw[h4 hqs];simpa using hiq'
     apply hnr
     refine mem_ready.2 ⟨?_,ops[i],Array.getElem?_eq_getElem r1,fun e he hb=>?_⟩
     ·simp[qA,r1];omega
     ·have hl:=r3 e.on ((mU (Array.getElem?_eq_getElem r1)).2 ⟨e,he,hb,rfl⟩)
      have hlt:e.on<q:=by
       refine Classical.byContradiction fun hnl=>?_
       by_cases hs:e.on<ops.size
       ·have:=hg.tl e.on AT hs
        grind
       ·have:aS.getD e.on false=false:=by simp[Array.getElem?_eq_none (show aS.size<=e.on by rw[hg.size];omega)]
        grind
      simp[qA,show e.on<ops.size by omega,hlt]
   have hin:∃o v,(i,o,v)∈kZ:=by
    apply Classical.byContradiction
    intro hno
    have:=hg.li i hiq fun o v hm=>hno ⟨o,v,hm⟩
    have:=yh this
    rw[r2]at this
    cases this
   obtain⟨o',v,hin⟩:=hin
   obtain⟨pre,post,rfl⟩:=List.append_of_mem hin
   have AW:=List.pairwise_append.1 hg.sorted
   have hap:∀y∈pre,ap y.2.1 o'=true:=by
    intro y hy
    obtain⟨k,o,u⟩:=y
    have hlt:k<i:=AW.2.2 _ hy _ List.mem_cons_self
    obtain⟨u1,u2,u3⟩:=hg.un k o u (List.mem_append_left _ hy)
    obtain⟨_,_,u4⟩:=hg.un i o' v BY
    have hs:=List.all_eq_true.1 (List.all_eq_true.1 h3 i (List.mem_range.2 hiq)) k (List.mem_range.2 hlt)
    rw[Bool.or_eq_true]at hs
    rcases hs with hs|hs
    ·grind
    ·grind [afI]
   obtain⟨p1,p2,p3,p4,p5⟩:=pull pre post E hap hch
   obtain⟨_,_,u4⟩:=hg.un i o' v BY
   have ho:ops.toList[i]? =some ops[i]:=S_
   refine pJ (o:=ops[i]) S_ (Y.run h (kq i _ _ ho u4) p3 fun G' a' w' k1 k2=>?_)
   exact ih (pre++post) A_ _ (step E o' v) (GK hg hi) p4 (fun G'' a'' w'' z1 z2=>hT G'' a'' w'' (z1.eqv p5) z2) G' a' w' k1 (hpr.trans k2)
def abM(hm:P.follows .mixedOrders=true):ZG P n:=by
 intro D draw id ops bQ q G E a w K Q hc hd h hw hn
 cases draw with
 |false=>grind [wp_region_list,P3,aI.refl]
 |true=>
 have hd:=hd rfl
 simp only[OZ,Bool.and_eq_true,decide_eq_true_eq]at hd
 obtain⟨hq,h1,h2,h3,h4⟩:=hd
 obtain⟨hlen,kq⟩:=gB _ _ hc
 have hsz:bQ.length=ops.size:=by rw[<-hlen];simp
 obtain⟨vs,e1,e2,e3⟩:=L8 q bQ E 0 AT hw
 have hmk:(mk 0 bQ vs).length=q:=by
  have:∀(l:List ar)(vs:List AV)(k:Nat),vs.length<=l.length->(mk k l vs).length=vs.length:=by
   intro l
   induction l with
   |nil=>intro vs k hl;cases vs with
    |nil=>rfl
    |cons=>simp at hl
   |cons o l ih=>intro vs k hl;cases vs with
    |nil=>rfl
    |cons v vs=>grind [mk]
  rw[this bQ vs 0 AT,e1]
 refine wp_region_any hm ?_
 have hrq:q<ops.size->Region.ready .any ops (qA ops.size q)=[q]:=by
  intro hlt
  obtain⟨d,hd⟩:∃d,ops.size -q=d+1:=⟨ops.size -q -1,AT⟩
  rw[hd]at h4
  simp only[rQ,Bool.and_eq_true,beq_iff_eq]at h4
  exact h4.1
 have hT:∀G' a' w',Inv G' n D (fin E (mk 0 bQ vs)) a' w'->aI G w G' w'->wpAny P .any ops Q (ops.size -q) (qA ops.size q) a' w':=by
  intro G' a' w' z1 z2
  have hl:(bQ.drop q).length=ops.size -q:=N_
  have:=xC G w hc hn (bQ.drop q) q (qA ops.size q) G' _ a' w' rfl A_ e3 z1 z2
  rwa[hl]at this
 have ks:Good ops bQ q (mk 0 bQ vs) (Array.replicate ops.size false):=by
  have NB:∀k b,k<ops.size->(Array.replicate ops.size false).getD k b=false:=fun k b hk=>by simp[hk]
  refine⟨BY,fun k o v hk=>?_,fun k hk hno=>?_,fun j _ hj=>NB j _ hj,fun m hm hl i hi=>?_,Ac bQ vs 0⟩
  ·obtain⟨j,j1,j2,j3⟩:=I9 bQ vs 0 k o v hk
   have:k=j:=AT
   subst this
   exact⟨AT,NB k _ AT,j3⟩
  ·obtain⟨o,v,hh⟩:=N5 bQ vs 0 k AT AT
   grind
  ·rw[NB m _ AT]at hl;cases hl
 have:=VQ (P:=P) (n:=n) (Q:=Q) G w (ops.size -q) hc hq h1 h2 h3 hrq q (mk 0 bQ vs) hmk _ E ks e2 hT G a {w with drawn:=w.drawn+1} h.drew (aI.drew G w)
 grind
end
end Go.AB
end
