/- A part. -/
import Derived.Test.YtgecakgfnjkkbaaGreatFt7
set_option linter.unusedSimpArgs false
set_option linter.unusedVariables false
section
namespace Go.AB
open Go
abbrev KK(α:Type):=Nat->Nat->(α->Nat->Nat->IC)->IC
def dR(r:Nat):KK Nat:=fun n p k=>match n/r with
 |0=>k (n % r) 0 p
 |m+1=>k (n % r) (m+1) p
def dN:KK Nat:=fun n p k=>dR 16 n p fun c n p=>match c with
 |14=>dR 256 n p fun x n p=>k (x+14) n p
 |15=>dR 4 n p fun s n p=>dR (2^(16*2^s)) n p k
 |c=>k c n p
def dB:KK Bool:=fun n p k=>dR 2 n p fun c n p=>match c with
 |0=>k false n p
 |_=>k true n p
def dM{α:Type}(f:KK α):Nat->KK (List α)
 |0,n,p,k=>k [] n p
 |m+1,n,p,k=>f n p fun x n p=>dM f m n p fun xs n p=>k (x::xs) n p
def dL{α:Type}(f:KK α):KK (List α):=fun n p k=>dN n p fun m n p=>dM f m n p k
def dP{α β:Type}(f:KK α)(g:KK β):KK (α×β):=fun n p k=>f n p fun a n p=>g n p fun b n p=>k (a,b) n p
def dO{α:Type}(f:KK α):KK (Option α):=fun n p k=>dB n p fun c n p=>match c with
 |false=>k none n p
 |true=>f n p fun a n p=>k (some a) n p
def dK:KK IntKind:=fun n p k=>dR 8 n p fun c n p=>match c with
 |0=>k .i64 n p
 |1=>k .u8 n p
 |2=>k .u32 n p
 |3=>k .u64 n p
 |4=>k .i32 n p
 |_=>k .u16 n p
def u8s(l:List Nat):List UInt8:=l.map UInt8.ofNat
def dA:Nat->KK AV
 |0,_,_,_=>.dead
 |f+1,n,p,k=>dR 16 n p fun c n p=>match c with
  |0=>dN n p fun x n p=>k (.int .i64 (.ofNat x)) n p
  |1=>dK n p fun i n p=>dN n p fun x n p=>k (.int i (.ofNat x)) n p
  |2=>dR 256 n p fun x n p=>k (.int .u8 (.ofNat x)) n p
  |3=>k (.bool false) n p
  |4=>k (.bool true) n p
  |5=>dL (dR 256) n p fun s n p=>k (.str (u8s s)) n p
  |6=>k .fj n p
  |7=>dB n p fun o n p=>dN n p fun s n p=>dN n p fun m n p=>dL (dA f) n p fun c n p=>k (.sl o s m c) n p
  |8=>dL (dA f) n p fun c n p=>k (.agg c) n p
  |9=>k .nX n p
  |10=>dR 512 n p fun g n p=>dL (dA f) n p fun a n p=>dL (dA f) n p fun c n p=>k (.fn g a c) n p
  |11=>dN n p fun t n p=>dN n p fun m n p=>dL (dA f) n p fun c n p=>k (.bb t m c) n p
  |12=>k .lx n p
  |13=>k .se n p
  |14=>dN n p fun x n p=>k (.int .i64 (.negSucc x)) n p
  |_=>k (.arr 0 0 0 0) n p
def dX:KK IX:=fun n p k=>dR 16 n p fun c n p=>match c with
 |0=>dA 8 n p fun a n p=>k (.c a) n p
 |15=>dN n p fun i n p=>k (.t i) n p
 |c=>bif Nat.blt c 8 then k (.t (p+1 -c)) n p else k (.t (c -8)) n p
def dBo:KK BinOp:=fun n p k=>dR 17 n p fun c n p=>match c with
 |0=>k .add n p
 |1=>k .sub n p
 |2=>k .mul n p
 |3=>k .quo n p
 |4=>k .rem n p
 |5=>k .and n p
 |6=>k .or n p
 |7=>k .xor n p
 |8=>k .shl n p
 |9=>k .shr n p
 |10=>k .andNot n p
 |11=>k .lss n p
 |12=>k .leq n p
 |13=>k .gtr n p
 |14=>k .geq n p
 |15=>k .eql n p
 |_=>k .neq n p
def dUo:KK UnOp:=fun n p k=>dR 3 n p fun c n p=>match c with
 |0=>k .not n p
 |1=>k .neg n p
 |_=>k .xor n p
def dKk:KK mz:=fun n p k=>dR 4 n p fun c n p=>match c with
 |0=>dK n p fun i n p=>k (.int i) n p
 |1=>k .str n p
 |2=>k .bool n p
 |_=>dN n p fun m n p=>k (.bytes m) n p
def dOq:KK qN:=fun n p k=>dR 64 n p fun c n p=>match c with
 |0=>dUo n p fun a n p=>dX n p fun b n p=>k (.un a b) n p
 |1=>dK n p fun a n p=>dX n p fun b n p=>k (.me a b) n p
 |2=>dN n p fun a n p=>dX n p fun b n p=>k (.HF a b) n p
 |3=>dN n p fun a n p=>dX n p fun b n p=>dO dX n p fun c n p=>dO dX n p fun d n p=>dO dX n p fun e n p=>k (.slice a b c d e) n p
 |4=>dN n p fun a n p=>dN n p fun b n p=>dL (dA 8) n p fun c n p=>dL (dP dN (dP dN dX)) n p fun d n p=>k (.ij a b c d) n p
 |5=>dN n p fun a n p=>dX n p fun b n p=>k (.zy a b) n p
 |6=>dX n p fun a n p=>dL dX n p fun b n p=>k (.iC a b) n p
 |7=>dN n p fun a n p=>dN n p fun b n p=>dL (dA 8) n p fun c n p=>dX n p fun d n p=>dX n p fun e n p=>k (.nY a b c d e) n p
 |8=>dB n p fun a n p=>dX n p fun b n p=>dX n p fun c n p=>k (.Tx a b c) n p
 |9=>dB n p fun a n p=>dL dX n p fun b n p=>k (.nD a b) n p
 |10=>dN n p fun a n p=>dN n p fun b n p=>dX n p fun c n p=>dX n p fun d n p=>k (.iS a b c d) n p
 |11=>dL (dA 8) n p fun a n p=>k (.mb a) n p
 |12=>dN n p fun a n p=>dB n p fun b n p=>dX n p fun c n p=>k (.Ue a b c) n p
 |13=>dX n p fun a n p=>dX n p fun b n p=>k (.kY a b) n p
 |14=>dR 512 n p fun a n p=>dL dX n p fun b n p=>dL dX n p fun c n p=>k (.sd a b c) n p
 |15=>dN n p fun a n p=>dN n p fun b n p=>dX n p fun c n p=>dX n p fun d n p=>k (.append a b c d) n p
 |16=>dN n p fun a n p=>dN n p fun b n p=>dL (dA 8) n p fun c n p=>dX n p fun d n p=>dX n p fun e n p=>k (.kT a b c d e) n p
 |17=>dX n p fun a n p=>dO dX n p fun b n p=>dO dX n p fun c n p=>k (.oS a b c) n p
 |18=>dX n p fun a n p=>k (.mw a) n p
 |19=>dX n p fun a n p=>k (.jU a) n p
 |20=>dB n p fun a n p=>dX n p fun b n p=>k (.WR a b) n p
 |21=>dN n p fun a n p=>dN n p fun b n p=>dL (dA 8) n p fun c n p=>dL (dP dN (dP dN dX)) n p fun d n p=>k (.lR a b c d) n p
 |22=>dK n p fun a n p=>dX n p fun b n p=>k (.nA a b) n p
 |23=>dN n p fun a n p=>dN n p fun b n p=>dX n p fun c n p=>k (.HG a b c) n p
 |24=>dB n p fun a n p=>dX n p fun b n p=>k (.Ua a b) n p
 |25=>dX n p fun a n p=>k (.cap a) n p
 |26=>dB n p fun a n p=>dX n p fun b n p=>dX n p fun c n p=>k (.WQ a b c) n p
 |27=>dN n p fun a n p=>dB n p fun b n p=>dX n p fun c n p=>k (.zi a b c) n p
 |28=>dL (dA 8) n p fun a n p=>dX n p fun b n p=>k (.rD a b) n p
 |29=>dR 512 n p fun a n p=>dN n p fun b n p=>dL dX n p fun c n p=>k (.yV a b c) n p
 |30=>dKk n p fun a n p=>dA 8 n p fun b n p=>dB n p fun c n p=>dX n p fun d n p=>dX n p fun e n p=>k (.lookup a b c d e) n p
 |31=>dX n p fun a n p=>k (.HX a) n p
 |32=>dR 512 n p fun a n p=>dX n p fun b n p=>k (.yW a b) n p
 |33=>dN n p fun a n p=>dX n p fun b n p=>k (.HW a b) n p
 |34=>dN n p fun a n p=>dX n p fun b n p=>dX n p fun c n p=>k (.n9 a b c) n p
 |35=>dB n p fun a n p=>dX n p fun b n p=>k (.T9 a b) n p
 |36=>dB n p fun a n p=>dX n p fun b n p=>dX n p fun c n p=>k (.Ty a b c) n p
 |37=>dN n p fun a n p=>dN n p fun b n p=>dN n p fun c n p=>dN n p fun d n p=>dX n p fun e n p=>k (.HH a b c d e) n p
 |38=>dN n p fun a n p=>dN n p fun b n p=>dL (dA 8) n p fun c n p=>dX n p fun d n p=>dX n p fun e n p=>k (.oc a b c d e) n p
 |39=>dKk n p fun a n p=>dX n p fun b n p=>dX n p fun c n p=>dX n p fun d n p=>k (.mapUpdate a b c d) n p
 |40=>dN n p fun a n p=>dX n p fun b n p=>dX n p fun c n p=>k (.yZ a b c) n p
 |41=>k .makeMap n p
 |_=>dX n p fun a n p=>k (.kJ a) n p
def dOp:KK qN:=fun n p k=>dR 16 n p fun c n p=>match c with
 |0=>dB n p fun a n p=>dX n p fun b n p=>k (.oj a b) n p
 |1=>dBo n p fun a n p=>dX n p fun b n p=>dX n p fun c n p=>k (.bin a b c) n p
 |2=>dN n p fun a n p=>dX n p fun b n p=>k (.fieldAddr a b) n p
 |3=>dN n p fun a n p=>dB n p fun b n p=>dX n p fun c n p=>k (.load a b c) n p
 |4=>dR 512 n p fun a n p=>dL dX n p fun b n p=>k (.call a b) n p
 |5=>dX n p fun a n p=>k (.nilCheck a) n p
 |6=>dN n p fun a n p=>dX n p fun b n p=>dX n p fun c n p=>k (.store a b c) n p
 |7=>dX n p fun a n p=>dN n p fun b n p=>k (.extract a b) n p
 |8=>dX n p fun a n p=>dX n p fun b n p=>dX n p fun c n p=>k (.pick a b c) n p
 |9=>dL (dA 8) n p fun a n p=>dB n p fun b n p=>dX n p fun c n p=>k (.ki a b c) n p
 |10=>dN n p fun a n p=>dX n p fun b n p=>k (.len a b) n p
 |11=>dL (dA 8) n p fun a n p=>dX n p fun b n p=>dX n p fun c n p=>k (.indexAddr a b c) n p
 |12=>dL (dA 8) n p fun a n p=>dL (dP dN (dP dN dX)) n p fun b n p=>k (.build a b) n p
 |13=>dL (dA 8) n p fun a n p=>k (.jS a) n p
 |14=>dX n p fun a n p=>k (.tS a) n p
 |_=>dOq n p k
def dGd(c:Nat):KK (Option (Nat×Bool)):=fun n p k=>bif Nat.blt c 3 then k none n p else dX n p fun x n p=>dB n p fun w n p=>match x with
 |.t i=>k (some (i,w)) n p
 |_=>.dead
def dFo(x:Nat)(k:Nat->IC):IC:=match x with
 |0=>k 0
 |m+1=>k (m+1)
def dOr:KK aq:=fun n p k=>dR 6 n p fun c n p=>match c % 3 with
 |0=>dGd c n p fun g n p=>dOp n p fun o n p=>k ⟨none,o,g⟩ n p
 |1=>dGd c n p fun g n p=>dOp n p fun o n p=>dFo (p+1) fun d=>k ⟨some d,o,g⟩ n d
 |_=>dN n p fun d n p=>dGd c n p fun g n p=>dOp n p fun o n _=>dFo d fun d=>k ⟨some d,o,g⟩ n d
def dSl:Nat->Nat->KK (List Nat)
 |0,_,n,p,k=>k [] n p
 |m+1,q,n,p,k=>dN n p fun x n p=>dFo (q+x) fun q=>dSl m q n p fun xs n p=>k (q::xs) n p
def dV:KK (List Nat):=fun n p k=>dN n p fun m n p=>dSl m 0 n p k
def dSb:Nat->Nat->KK (List (Nat×Bool))
 |0,_,n,p,k=>k [] n p
 |m+1,q,n,p,k=>dN n p fun x n p=>dB n p fun b n p=>dFo (q+x) fun q=>dSb m q n p fun xs n p=>k ((q,b)::xs) n p
def dW:KK (List (Nat×Bool)):=fun n p k=>dN n p fun m n p=>dSb m 0 n p k
def dC:Nat->KK IC
 |0,_,_,_=>.dead
 |f+1,n,p,k=>dR 9 n p fun c n p=>match c with
  |0=>dC f n p fun a n p=>dC f n p fun b n p=>k (.seq a b) n p
  |1=>dL dOr n p fun o n p=>dV n p fun v n p=>k (.XH none o v) n p
  |2=>dX n p fun x n p=>dC f n p fun a n p=>dC f n p fun b n p=>k (.cond x a b) n p
  |3=>k .ret n p
  |4=>k .skip n p
  |5=>dN n p fun m n p=>dC f n p fun a n p=>k (.block m a) n p
  |6=>dW n p fun v n p=>dC f n p fun a n p=>k (.loop v a) n p
  |7=>dW n p fun v n p=>dC f n p fun a n p=>dC f n p fun b n p=>k (.join v a b) n p
  |_=>dR 10 n p fun c n p=>match c with
   |0=>dN n p fun m n p=>k (.exit m) n p
   |1=>dN n p fun q n p=>dL dOr n p fun o n p=>dV n p fun v n p=>k (.XH (some q) o v) n p
   |2=>dN n p fun m n p=>k (.label m) n p
   |3=>dN n p fun m n p=>k (.goto m) n p
   |4=>dC f n p fun a n p=>k (.scope a) n p
   |5=>dV n p fun t n p=>dN n p fun q n p=>dL dOr n p fun o n p=>dV n p fun v n p=>k (.Sp t q o v) n p
   |6=>dL (dL dB) n p fun t n p=>dL dOr n p fun o n p=>dV n p fun v n p=>k (.Vw t o v) n p
   |7=>k .dead n p
   |8=>dV n p fun t n p=>dL (dP (dR 4) (dP dN dOr)) n p fun o n p=>dV n p fun v n p=>k (.OR t o v) n p
   |_=>dN n p fun m n p=>dW n p fun v n p=>dC f n p fun a n p=>dC f n p fun b n p=>dC f n p fun c n p=>dC f n p fun d n p=>k (.B7 m v a b c d) n p
def dec(n:Nat):IC:=dC 400 n 0 fun c _ _=>c
attribute[irreducible] u8s
theorem ofN(n:Nat):Int.ofNat (no_index (OfNat.ofNat n))=OfNat.ofNat n:=rfl
theorem ngN(n:Nat):Int.negSucc n=-((n+1:Nat):Int):=rfl
theorem V1:u8s []=[]:=by unfold u8s;rfl
theorem S0(n:Nat)(l:List Nat):u8s (no_index (OfNat.ofNat n)::l)=OfNat.ofNat n::u8s l:=by unfold u8s;rfl
attribute[go_sem] ofN ngN V1 S0
theorem gS{f f':IX->AV}:∀(xs:List IX),(∀x∈xs,f x=f' x)->cF f xs=cF f' xs
 |[],_=>rfl
 |x::xs,h=>by
  show NI (f x) (cF f xs)=NI (f' x) (cF f' xs)
  rw[h x List.mem_cons_self,gS xs fun y hy=>h y (List.mem_cons_of_mem _ hy)]
theorem uZ{f f':IX->AV}:∀(ps:List (Nat×Nat×IX))(cs:List AV),(∀x∈ps.map (fun p=>p.2.2),f x=f' x)->fill f cs ps=fill f' cs ps
 |[],_,_=>rfl
 |(off,n,x)::ps,cs,h=>by
  have h1:=h x (by simp)
  have ih:=fun cs=>uZ ps cs fun y hy=>h y (by grind)
  unfold fill
  rw[h1]
  simp[ih]
theorem ln{f f':IX->AV}(o:Option IX)(d:Int)(h:∀x∈oX o,f x=f' x):Es f o d=Es f' o d:=by
 cases o with
 |none=>rfl
 |some x=>grind [Es,oX]
theorem Sa{o:qN}{f f':IX->AV}{E E':St}(h:∀x∈eh o,f x=f' x)(hx:∀x∈eh o,E.x x=E'.x x)(hs:E.s=E'.s)(hrd:∀x∈eh o,∀n,rd E (f x) n=rd E' (f x) n):pv o f E=pv o f' E':=by
 cases o<;>(try rfl)
 case oj tr x=>cases tr<;>first|rfl|(show Oz (f x)=Oz (f' x);grind [eh])
 case pick c x y=>show EM (E.x x) (E.x y) (f c)=EM (E'.x x) (E'.x y) (f' c);grind [eh]
 case build z ps=>show AH (fill f z ps)=AH (fill f' z ps);rw[uZ ps z h]
 case load n m x=>show ju m (rd E (f x) n)=ju m (rd E' (f' x) n);grind [eh]
 case nA k x=>show yn k E.s (f x)=yn k E'.s (f' x);grind [eh]
 case ki z m x=>show Ey z m E.s (f x)=Ey z m E'.s (f' x);grind [eh]
 case jU x=>show qk (f x)=qk (f' x);grind [eh]
 case nilCheck x=>show lu (f x)=lu (f' x);grind [eh]
 case bin b x y=>show J9 b (f x) (f y)=J9 b (f' x) (f' y);grind [eh]
 case WQ b x y=>show Ky b (f x) (f y)=Ky b (f' x) (f' y);grind [eh]
 case Tx b x y=>show CP b (f x) (f y)=CP b (f' x) (f' y);grind [eh]
 case Ty b x y=>unfold pv;grind [eh]
 case un u x=>show XY u (f x)=XY u (f' x);grind [eh]
 case me k x=>show sL k (f x)=sL k (f' x);grind [eh]
 case kY x i=>show tq (f x) (f i)=tq (f' x) (f' i);grind [eh]
 case fieldAddr off x=>show gp off x (f x)=gp off x (f' x);grind [eh]
 case indexAddr sz x i=>show jX sz (f x) (f i)=jX sz (f' x) (f' i);grind [eh]
 case iS sz l x i=>show fS sz l x (f x) (f i)=fS sz l x (f' x) (f' i);grind [eh]
 case slice sz x lo hi mx=>
  cases mx with
  |some m=>
   have e1:=ln (f:=f) (f':=f') lo 0 fun y hy=>h y (by simp[eh,hy])
   have e2:=ln (f:=f) (f':=f') hi 0 fun y hy=>h y (by simp[eh,hy])
   have e3:=ln (f:=f) (f':=f') (some m) 0 fun y hy=>h y (by simp[eh,hy])
   show oA sz f lo hi m (f x)=oA sz f' lo hi m (f' x)
   rw[h x (by simp[eh])]
   unfold oA
   grind
  |none=>
   have e1:=ln (f:=f) (f':=f') lo 0 fun y hy=>h y (by simp[eh,hy])
   have e2:=fun d=>ln (f:=f) (f':=f') hi d fun y hy=>h y (by simp[eh,hy])
   show ss sz f lo hi (f x)=ss sz f' lo hi (f' x)
   rw[h x (by simp[eh])]
   unfold ss
   grind
 case oS x lo hi=>
  have e1:=ln (f:=f) (f':=f') lo 0 fun y hy=>h y (by simp[eh,hy])
  have e2:=fun d=>ln (f:=f) (f':=f') hi d fun y hy=>h y (by simp[eh,hy])
  show lG f lo hi (f x)=lG f' lo hi (f' x)
  rw[h x (by simp[eh])]
  unfold lG
  grind
 case Ua b x=>show Il b (f x)=Il b (f' x);grind [eh]
 case T9 b x=>show Ik b (f x)=Ik b (f' x);grind [eh]
 case cap x=>show Kh (f x)=Kh (f' x);grind [eh]
 case extract x k=>show po k (f x)=po k (f' x);grind [eh]
 case len c x=>show zR E.s c (f x)=zR E'.s c (f' x);grind [eh]
 case nD m xs=>
  show s8 m (xs.map f)=s8 m (xs.map f')
  rw[show xs.map f=xs.map f' from List.map_congr_left h]
 case sd fi xs ys=>
  show s7 fi (cF f xs) (cF f ys)=s7 fi (cF f' xs) (cF f' ys)
  grind [gS,eh]
def dr(o:aq)(E:St):St:=match o.op with
 |.oj true x=>E.drain x
 |_=>E
def step(E:St)(o:aq)(v:AV):St:=(bZ (dr o E) v o.dst).put o.dst v
theorem Qa{o:aq}{E:St}(h:qv o E≠.no):dr o E=E:=by
 obtain⟨d,op,g⟩:=o
 unfold dr
 split
 ·rename_i x hop
  subst hop
  refine absurd ?_ h
  cases g with
  |none=>rfl
  |some tw=>
   obtain⟨t,want⟩:=tw
   show Lx (.oj true x) want E (look E.e t)=.no
   unfold Lx
   split<;>rfl
 ·rfl
inductive Y(P:Program)(E:St):aq->AV->Prop where
 |pure (o:aq) (v:AV) (h:(qv o E=.cQ v\/∃c,qv o E=.prt c v/\c)):Y P E o v
 |oj (d:Option Nat) (x:IX) (h:dh (E.x x)=true):Y P E ⟨d,.oj true x,none⟩ (E.x x)
 |call (d:Option Nat) (f:Nat) (args:List IX) (as rs:List AV) (h1:cF (xg true E) args=some as) (h2:jA rs=true) (h3:FE P f as E.s rs E.s):Y P E ⟨d,.call f args,none⟩ (fk rs)
 |HM (d:Option Nat) (f:Nat) (args:List IX) (t:Nat) (want g0 b:Bool) (rs:List AV) (h0:Qx (look E.e t)=some (g0,b)) (h2:jA rs=true)
   (h1:(g0&&(b==want))=true->∃as,cF (xg true E) args=some as/\FE P f as E.s rs E.s):Y P E ⟨d,.call f args,some (t,want)⟩ (.when (g0&&(b==want)) (fk rs))
 |iC (d:Option Nat) (x:IX) (args:List IX) (f:Nat) (as rs:List AV) (h1:callee x args true E f as) (hf:tJ P f=true) (h2:jA rs=true) (h3:FE P f as E.s rs E.s):Y P E ⟨d,.iC x args,none⟩ (fk rs)
 |AQ (d:Option Nat) (x:IX) (args:List IX) (t:Nat) (want g0 b:Bool) (rs:List AV) (h0:Qx (look E.e t)=some (g0,b)) (h2:jA rs=true)
   (h1:(g0&&(b==want))=true->∃f as,callee x args true E f as/\tJ P f=true/\FE P f as E.s rs E.s):Y P E ⟨d,.iC x args,some (t,want)⟩ (.when (g0&&(b==want)) (fk rs))
 |WN (o:aq) (v:AV) (h:(CB o E=.cQ v\/∃c,CB o E=.prt c v/\c)):Y P E o v
theorem aak{o:qN}{want:Bool}{E:St}{a:AV}:(∃g b,Qx a=some (g,b)/\Lx o want E a=V6 (rdO o) (g&&(b==want)) (pv o (xg (g&&(b==want)) E) E))\/Lx o want E a=.no:=by
 unfold Lx
 split
 ·exact .inl ⟨_,_,rfl,rfl⟩
 ·exact .inl ⟨_,_,rfl,rfl⟩
 grind
theorem Sh{o:qN}{want:Bool}{E:St}{a:AV}:(∃g b,Qx a=some (g,b)/\Ps o want E a=Tl (g&&(b==want)) (qe (xg (g&&(b==want)) E) E.s o))\/Ps o want E a=.no:=by
 unfold Ps
 split
 ·exact .inl ⟨_,_,rfl,rfl⟩
 ·exact .inl ⟨_,_,rfl,rfl⟩
 grind
theorem Aj{P:Program}{o:qN}{d:Option Nat}{t:Nat}{want:Bool}{E:St}{K:St->Prop}{a:AV}{g b:Bool}(h:Qx a=some (g,b)):x7 P o d t want E K a=Pr P (g&&(b==want)) o E d K (pv o (xg (g&&(b==want)) E) E):=by
 unfold Qx at h
 split at h
 ·injection h with h;injection h with h1 h2;subst h1;subst h2;rfl
 ·injection h with h;injection h with h1 h2;subst h1;subst h2;rfl
 ·cases h
theorem xt{v:AV}(h:vG v=true):bA v=true/\(∀t,¬bG v t)/\(∀τ d,bZ τ v d=τ):=by cases v<;>first|(simp[vG,dh]at h;done)|exact⟨rfl,fun t h=>h,fun τ d=>by rfl⟩
theorem BU{f:IX->AV}{s:ae}{o:qN}{v:AV}(h:qe f s o=.cQ v\/∃c,qe f s o=.prt c v):vG v=true/\(∀g τ,pv o g τ=.no)/\(∀x,o≠.oj true x):=by
 have tt:∀{r:PR}{u:AV},r=.cQ u->(r=.cQ v\/∃c,r=.prt c v)->v=u:=by grind
 have tp:∀{r:PR}{u:AV}{c:Prop},r=.prt c u->(r=.cQ v\/∃c,r=.prt c v)->v=u:=by grind
 have tn:∀{r:PR},r=.no->¬(r=.cQ v\/∃c,r=.prt c v):=by simp
 have ok:∀(k:Bool)(a:AV)(b:Bool),(k=false->dh a=true)->vG (Lk k a b)=true:=by
  intro k a b ha
  cases k with
  |true=>rfl
  |false=>show vG a=true;have:=ha rfl;cases a<;>first|exact this|rfl
 unfold qe at h
 split at h
 ·rename_i x
  refine⟨?_,fun g τ=>rfl,fun x h=>by cases h⟩
  cases hx:f x<;>rw[hx]at h<;>first|(exact absurd h (tn rfl))|(rw[tt rfl h];rfl)
 ·rename_i sz n z ps
  refine⟨?_,fun g τ=>rfl,fun x h=>by cases h⟩
  cases hx:fill f z ps<;>rw[hx]at h
  ·exact absurd h (tn rfl)
  ·rw[tp rfl h];rfl
 ·rename_i kk zero k x ky
  refine⟨?_,fun g τ=>rfl,fun x h=>by cases h⟩
  have ck:∀{c:Prop}{a:AV}{b:Bool},(Pl k c (Lk k a b)=.cQ v\/∃c',Pl k c (Lk k a b)=.prt c' v)->vG v=true:=by
   intro c a b h
   unfold Pl at h
   cases hp:BT k (Lk k a b)with
   |false=>grind
   |true=>
    rw[hp]at h
    rw[tp rfl h]
    refine ok k a b fun hk=>?_
    subst hk;exact hp
  have ck':∀{c:Prop}{o:Option AV},(Pl k c (uz zero k o)=.cQ v\/∃c',Pl k c (uz zero k o)=.prt c' v)->vG v=true:=by
   intro c o h
   cases o with
   |none=>exact ck h
   |some a=>exact ck h
  unfold jQ at h
  split at h
  ·unfold sW at h
   grind
  ·exact ck h
  grind
 ·rename_i x
  refine⟨?_,fun g τ=>rfl,fun x h=>by cases h⟩
  unfold z7 at h
  split at h
  ·rw[tt rfl h];rfl
  grind
 ·rename_i x
  refine⟨?_,fun g τ=>rfl,fun x h=>by cases h⟩
  unfold Cp at h
  split at h
  ·rw[tt rfl h];rfl
  grind
 grind
theorem Si{o:aq}{E:St}{v:AV}(h:CB o E=.cQ v\/∃c,CB o E=.prt c v/\c):
 bA v=true/\(∀t,¬bG v t)/\(∀τ d,bZ τ v d=τ)/\dr o E=E:=by
 obtain⟨d,op,g⟩:=o
 have hdr:(∀x,op≠.oj true x)->dr ⟨d,op,g⟩ E=E:=by
  intro h
  unfold dr
  split
  ·grind
  ·rfl
 have wk:∀{r:PR},(r=.cQ v\/∃c,r=.prt c v/\c)->(r=.cQ v\/∃c,r=.prt c v):=fun h=>h.imp id fun⟨c,h,_⟩=>⟨c,h⟩
 cases g with
 |none=>
  have h':qe (xg true E) E.s op=.cQ v\/∃c,qe (xg true E) E.s op=.prt c v:=wk h
  grind [BU,xt]
 |some tw=>
  obtain⟨t,want⟩:=tw
  have h':Ps op want E (look E.e t)=.cQ v\/∃c,Ps op want E (look E.e t)=.prt c v:=wk h
  rcases Sh with⟨g0,b,hg0,hl⟩|hl<;>rw[hl]at h'
  case inr=>grind
  generalize(g0&&(b==want))=gg at h'
  have h2:=h'
  have:∃u,v=.when gg u/\(qe (xg gg E) E.s op=.cQ u\/∃c,qe (xg gg E) E.s op=.prt c u):=by
   cases hq:qe (xg gg E) E.s op with
   |cQ u=>
    rw[hq]at h2
    refine⟨u,?_,.inl rfl⟩
    rcases h2 with h2|⟨c,h2⟩
    ·injection h2 with h2;exact h2.symm
    ·cases h2
   |prt c u=>
    rw[hq]at h2
    refine⟨u,?_,.inr ⟨c,rfl⟩⟩
    rcases h2 with h2|⟨c,h2⟩
    ·cases h2
    ·injection h2 with _ h2;exact h2.symm
   |no=>rw[hq]at h2;rcases h2 with h2|⟨c,h2⟩<;>cases h2
  obtain⟨u,rfl,hu⟩:=this
  obtain⟨h1,_,h3⟩:=BU hu
  obtain⟨f1,f2,f3⟩:=xt h1
  exact⟨rfl,fun t ht=>f2 t ht,fun τ d=>f3 τ d,hdr h3⟩
section
variable{P:Program}{G G':Gh}{n:Nat}{D:List Deferred}{E E':St}{a:Act}{w w':World}
theorem ov{rs:List AV}(h:jA rs=true)(E:St)(d:Option Nat):bZ E (fk rs) d=E:=by
 match rs,h with
 |[],_=>cases d<;>rfl
 |[r],h=>cases r<;>first|(cases d<;>rfl)|(simp[jA,dh,Rc]at h)
 |_::_::_,_=>cases d<;>rfl
theorem IK{r:AV}(hr:dh r=true)(E:St)(d:Option Nat):bZ E r d=E:=by cases r<;>first|(cases d<;>rfl)|grind [dh]
theorem ox{rs:List AV}(h:jA rs=true):bA (fk rs)=true:=by
 match rs,h with
 |[],_=>rfl
 |[r],h=>cases r<;>first|rfl|(simp[jA,dh,Rc]at h)
 |_::_::_,_=>rfl
theorem Lw{o:aq}{K:St->Prop}(h:q1 P o E K):∃v,bA v=true/\Y P E o v/\K (step E o v):=by
 have gen:qK E o.dst K (qv o E)->∃v,bA v=true/\Y P E o v/\K (step E o v):=by
  intro hq
  cases hv:qv o E with
  |cQ v=>rw[hv]at hq;exact⟨v,hq.1,.pure o v (.inl hv),by unfold step;rw[Qa (by rw[hv];simp)];exact hq.2⟩
  |prt c v=>rw[hv]at hq;exact⟨v,hq.2.1,.pure o v (.inr ⟨c,hv,hq.1⟩),by unfold step;rw[Qa (by rw[hv];simp)];exact hq.2.2⟩
  |no=>rw[hv]at hq;exact hq.elim
 have Qw:∀{o:aq},qK E o.dst K (CB o E)->∃v,bA v=true/\Y P E o v/\K (step E o v):=by
  intro o hq
  cases hv:CB o E with
  |cQ v=>rw[hv]at hq;exact⟨v,hq.1,.WN o v (.inl hv),by unfold step;rw[(Si (.inl hv)).2.2.2];exact hq.2⟩
  |prt c v=>rw[hv]at hq;exact⟨v,hq.2.1,.WN o v (.inr ⟨c,hv,hq.1⟩),by unfold step;rw[(Si (.inr ⟨c,hv,hq.1⟩)).2.2.2];exact hq.2.2⟩
  |no=>rw[hv]at hq;exact hq.elim
 unfold q1 at h
 split at h
 ·rename_i d f args
  cases ha:cF (xg true E) args with
  |none=>rw[ha]at h;exact h.elim
  |some as=>
   rw[ha]at h
   obtain⟨rs,h2,h3,h4⟩:=h
   refine⟨_,ox h2,.call d f args as rs ha h2 h3,?_⟩
   show K ((bZ E (fk rs) d).put d (fk rs))
   grind [ov]
 ·rename_i d x
  obtain⟨h1,h2⟩:=h
  refine⟨_,?_,.oj d x h1,?_⟩
  ·generalize E.x x=av at h1
   cases av<;>first|rfl|grind [dh]
  ·show K ((bZ (E.drain x) (E.x x) d).put d (E.x x))
   grind [IK]
 ·rename_i d f args t want
  have h:∃g0 b,Qx (look E.e t)=some (g0,b)/\∃rs,jA rs=true/\((g0&&(b==want))=true->∃as,cF (xg (g0&&(b==want)) E) args=some as/\FE P f as E.s rs E.s)/\K (E.put d (.when (g0&&(b==want)) (fk rs))):=by
   unfold GO at h
   split at h
   ·rename_i b hl;exact⟨true,b,by rw[hl];rfl,h⟩
   ·rename_i g b hl;exact⟨g,b,by rw[hl];rfl,h⟩
   ·exact h.elim
  obtain⟨g0,b,hl,rs,h2,h3,h4⟩:=h
  refine⟨_,rfl,.HM d f args t want g0 b rs hl h2 (fun hb=>by grind),?_⟩
  have:bZ E (.when (g0&&(b==want)) (fk rs)) d=E:=ov h2 E d
  show K ((bZ E (.when (g0&&(b==want)) (fk rs)) d).put d (.when (g0&&(b==want)) (fk rs)))
  grind
 ·rename_i d x args
  cases hx:xg true E x<;>rw[hx]at h<;>try exact h.elim
  rename_i f first eF
  cases ha:cF (xg true E) args with
  |none=>rw[ha]at h;exact h.elim
  |some as=>
   rw[ha]at h
   obtain⟨hf,rs,h2,h3,h4⟩:=h
   refine⟨_,ox h2,.iC d x args f _ rs ⟨first,eF,as,hx,ha,rfl⟩ hf h2 h3,?_⟩
   show K ((bZ E (fk rs) d).put d (fk rs))
   grind [ov]
 ·rename_i d x args t want
  have h:∃g0 b,Qx (look E.e t)=some (g0,b)/\∃rs,jA rs=true/\((g0&&(b==want))=true->∃f as,callee x args (g0&&(b==want)) E f as/\tJ P f=true/\FE P f as E.s rs E.s)/\K (E.put d (.when (g0&&(b==want)) (fk rs))):=by
   unfold GP at h
   split at h
   ·rename_i b hl;exact⟨true,b,by rw[hl];rfl,h⟩
   ·rename_i g b hl;exact⟨g,b,by rw[hl];rfl,h⟩
   ·exact h.elim
  obtain⟨g0,b,hl,rs,h2,h3,h4⟩:=h
  refine⟨_,rfl,.AQ d x args t want g0 b rs hl h2 (fun hb=>by grind),?_⟩
  have:bZ E (.when (g0&&(b==want)) (fk rs)) d=E:=ov h2 E d
  show K ((bZ E (.when (g0&&(b==want)) (fk rs)) d).put d (.when (g0&&(b==want)) (fk rs)))
  grind
 ·exact Qw h
 ·exact Qw h
 ·exact Qw h
 ·exact Qw h
 ·exact Qw h
 grind
end
theorem gU{i:Nat}:∀{l:List IX},IX.t i∈l->i∈Am l
 |.t j::r,h=>by
  rcases List.mem_cons.1 h with h|h
  ·injection h with h;subst h;exact List.mem_cons_self
  ·exact List.mem_cons_of_mem _ (gU h)
 |.c a::r,h=>by
  rcases List.mem_cons.1 h with h|h
  ·cases h
  ·exact gU (l:=r) h
section
variable{P:Program}{G G':Gh}{n:Nat}{D:List Deferred}{E E':St}{a:Act}{w w':World}
structure Hx(o:aq)(E E':St):Prop where
 xs:∀x∈eh o.op,E.x x=E'.x x
 g:∀t want,o.g=some (t,want)->look E.e t=look E'.e t
 s:E.s=E'.s
 rd:∀x∈eh o.op,∀g n,rd E (AB.xg g E x) n=rd E' (AB.xg g E x) n
theorem Hx.symm{o:aq}(h:Hx o E E'):Hx o E' E:=⟨fun x hx=>(h.xs x hx).symm,fun t w hg=>(h.g t w hg).symm,h.s.symm,fun x hx g n=>by
 have e:AB.xg g E' x=AB.xg g E x:=by unfold AB.xg;rw[h.xs x hx]
 rw[e];exact(h.rd x hx g n).symm⟩
theorem Hx.xg{o:aq}(h:Hx o E E')(g:Bool):∀x∈eh o.op,xg g E x=xg g E' x:=fun x hx=>by unfold AB.xg;rw[h.xs x hx]
theorem Hx.qv{o:aq}(h:Hx o E E'):qv o E=qv o E':=by
 have hp:=fun g=>Sa (h.xg g) h.xs h.s fun x hx n=>h.rd x hx g n
 unfold AB.qv
 cases hg:o.g with
 |none=>exact hp true
 |some tw=>
  obtain⟨t,want⟩:=tw
  show Lx o.op want E (look E.e t)=Lx o.op want E' (look E'.e t)
  rw[h.g t want hg]
  unfold Lx
  grind
theorem Hx.qe{o:aq}(h:Hx o E E')(g:Bool):qe (AB.xg g E) E.s o.op=qe (AB.xg g E') E'.s o.op:=by
 have hx:=h.xg g
 have hs:=h.s
 obtain⟨d,op,gg⟩:=o
 cases op<;>first|rfl|skip
 case iW x=>show sK (AB.xg g E x)=sK (AB.xg g E' x);grind [eh]
 case ij sz n z ps=>show ET sz n (fill (AB.xg g E) z ps)=ET sz n (fill (AB.xg g E') z ps);rw[uZ ps z hx]
 case lookup kk z ok x k=>show jQ kk z ok E.s (AB.xg g E k) (AB.xg g E x)=jQ kk z ok E'.s (AB.xg g E' k) (AB.xg g E' x);grind [eh]
 case tS x=>show Cp (AB.xg g E x)=Cp (AB.xg g E' x);grind [eh]
 case kJ x=>show z7 (AB.xg g E x)=z7 (AB.xg g E' x);grind [eh]
theorem Hx.CB{o:aq}(h:Hx o E E'):CB o E=CB o E':=by
 unfold AB.CB
 cases hg:o.g with
 |none=>exact h.qe true
 |some tw=>
  obtain⟨t,want⟩:=tw
  show Ps o.op want E (look E.e t)=Ps o.op want E' (look E'.e t)
  rw[h.g t want hg]
  unfold Ps
  split
  ·rw[h.qe]
  ·rw[h.qe]
  ·rfl
theorem Y.J8{o:aq}{v:AV}(hy:Y P E o v)(h:Hx o E E'):Y P E' o v:=by
 cases hy with
 |pure _ _ hq=>exact .pure o v (by rw[<-h.qv];exact hq)
 |oj d x hi=>
  have hx:=h.xs x (by simp[eh])
  rw[hx]at hi⊢
  exact .oj d x hi
 |call d f args as rs h1 h2 h3=>exact .call d f args as rs (by rw[<-gS args (h.xg true)];exact h1) h2 (by rw[<-h.s];exact h3)
 |HM d f args t want g0 b rs h0 h2 h1=>
  refine .HM d f args t want g0 b rs (by rw[<-h.g t want rfl];exact h0) h2 fun hb=>?_
  obtain⟨as,q1,q2⟩:=h1 hb
  exact⟨as,by rw[<-gS args (h.xg true)];exact q1,by rw[<-h.s];exact q2⟩
 |iC d x args f as rs h1 hf h2 h3=>
  obtain⟨first,eF,xs,q1,q2,q3⟩:=h1
  exact .iC d x args f as rs ⟨first,eF,xs,by rw[<-h.xg true x List.mem_cons_self];exact q1,by rw[<-gS args fun y hy=>h.xg true y (List.mem_cons_of_mem _ hy)];exact q2,q3⟩ hf h2 (by rw[<-h.s];exact h3)
 |AQ d x args t want g0 b rs h0 h2 h1=>
  refine .AQ d x args t want g0 b rs (by rw[<-h.g t want rfl];exact h0) h2 fun hb=>?_
  obtain⟨f,as,⟨first,eF,xs,q1,q2,q3⟩,q4,q5⟩:=h1 hb
  exact⟨f,as,⟨first,eF,xs,by rw[<-h.xg true x List.mem_cons_self];exact q1,by rw[<-gS args fun y hy=>h.xg true y (List.mem_cons_of_mem _ hy)];exact q2,q3⟩,q4,by rw[<-h.s];exact q5⟩
 |WN _ _ hq=>exact .WN o v (by rw[<-h.CB];exact hq)
theorem UT(o:aq)(i:Nat):look (dr o E).e i=if jN o i=true then view (look E.e i)else look E.e i:=by
 unfold dr jN
 split
 ·rename_i x hop
  cases x with
  |c a=>simp[hop];rfl
  |t j=>
   show look ((j,view (look E.e j))::E.e) i=_
   grind [bc]
 grind
theorem iI(o:aq)(v:AV)(i:Nat):look (step E o v).e i=if o.dst=some i then v else if jN o i=true then view (look E.e i)else look E.e i:=by
 unfold step
 rw[<-UT]
 cases hd:o.dst with
 |none=>grind [St.put,ja,dr]
 |some d=>
  show look ((d,v)::(bZ (dr o E) v (some d)).e) i=_
  grind [bc,ja,dr]
theorem acF(o:aq):(dr o E).s=E.s/\(dr o E).lp=E.lp:=by
 unfold dr
 split
 ·rename_i x _
  cases x<;>exact⟨rfl,rfl⟩
 grind
theorem Ci(o:aq)(v:AV):(step E o v).s=E.s:=by
 unfold step
 have:∀(τ:St) d x,(τ.put d x).s=τ.s:=fun τ d x=>by cases d<;>rfl
 grind [ja,dr,acF]
theorem Jb(av:AV):bA (view av)=bA av:=by cases av<;>rfl
theorem BV(av:AV)(n off:Nat):lg n off (view av)=lg n off av:=by cases av<;>rfl
theorem jL{av:AV}(h:bA av=true)(n off:Nat):lg n off av=none:=by cases av<;>first|rfl|(simp[bA]at h)
theorem Vs{o:aq}{v:AV}(hf:bp E o.dst=true)(hv:bA v=true):∀p n,rd (step E o v) p n=rd E p n:=by
 intro p n
 cases p<;>try rfl
 ·rename_i b off
  show qF n off ((step E o v).s b)=qF n off (E.s b)
  rw[Ci]
 ·rename_i d off
  show lg n off (look (step E o v).e d)=lg n off (look E.e d)
  rw[iI]
  by_cases hd:o.dst=some d
  ·rw[if_pos hd,jL hv]
   rw[hd]at hf
   exact(jL hf n off).symm
  ·grind [BV]
theorem HA{o y:aq}{v:AV}(hf:bp E y.dst=true)(hv:bA v=true)(hn:gV y.dst (cu o)=true)(hdr:RG y o=true):Hx o E (step E y v):=by
 have key:∀i,i∈cu o->look (step E y v).e i=look E.e i:=by
  intro i hi
  have h1:¬jN y i=true:=by
   have:=List.all_eq_true.1 hdr i hi
   simpa using this
  rw[iI,if_neg,if_neg h1]
  intro hd
  rw[hd]at hn
  simp[gV]at hn
  exact hn hi
 refine⟨fun x hx=>?_,fun t want hg=>?_,(Ci y v).symm,fun x _ g n=>(Vs hf hv _ n).symm⟩
 ·cases x with
  |c a=>rfl
  |t i=>exact(key i (List.mem_append_right _ (gU hx))).symm
 ·exact(key t (List.mem_append_left _ (by rw[hg];exact List.mem_cons_self))).symm
structure k9(E E':St):Prop where
 e:∀i,look E.e i=look E'.e i
 lp:∀x,x∈E.lp↔x∈E'.lp
 s:E.s=E'.s
theorem k9.refl(E:St):k9 E E:=⟨fun _=>rfl,fun _=>Iff.rfl,rfl⟩
theorem k9.symm(h:k9 E E'):k9 E' E:=⟨fun i=>(h.e i).symm,fun x=>(h.lp x).symm,h.s.symm⟩
theorem k9.trans{E₃:St}(h:k9 E E')(k:k9 E' E₃):k9 E E₃:=⟨fun i=>(h.e i).trans (k.e i),fun x=>(h.lp x).trans (k.lp x),h.s.trans k.s⟩
theorem k9.rd(h:k9 E E'):∀p n,AB.rd E p n=AB.rd E' p n:=by
 intro p n
 cases p<;>try rfl
 ·rename_i b off
  show qF n off (E.s b)=qF n off (E'.s b)
  rw[h.s]
 ·rename_i d off
  show lg n off (look E.e d)=lg n off (look E'.e d)
  rw[h.e]
theorem k9.J8(h:k9 E E')(o:aq):Hx o E E':=⟨fun x _=>by cases x with
 |c a=>rfl
 |t i=>exact h.e i,fun t _ _=>h.e t,h.s,fun x _ g n=>h.rd _ n⟩
theorem k9.free(h:k9 E E')(d:Option Nat):bp E d=bp E' d:=by
 cases d with
 |none=>rfl
 |some d=>show bA (look E.e d)=bA (look E'.e d);rw[h.e]
theorem Bx:∀(v:AV)(d:Option Nat)(x:Nat×Nat),x∈(bZ E v d).lp↔(x∈E.lp\/∃i,d=some i/\x.1=i/\bG v x.2)
 |.lp t off,some i,(x1,x2)=>by
  show(x1,x2)∈(i,t)::E.lp↔_
  rw[List.mem_cons]
  constructor
  ·rintro(h|h)
   ·injection h with h1 h2;exact .inr ⟨i,rfl,h1,h2.symm⟩
   grind
  ·rintro(h|⟨j,h1,h2,h3⟩)
   ·exact .inr h
   ·have h3':t=x2:=h3
    grind
 |.lp t off,none,x=>⟨fun h=>.inl h,fun h=>h.elim id fun⟨_,h1,_⟩=>by grind⟩
 |.when _ v,d,x=>Bx v d x
 |.undef,_,_|.bool _,_,_|.int _ _,_,_|.str _,_,_|.fj,_,_|.ref _ _,_,_|.sp _,_,_|.loc _,_,_|.sl _ _ _ _,_,_|.arr _ _ _ _,_,_|.agg _,_,_|.iL _,_,_|.fn _ _ _,_,_|.nX,_,_|.mp _,_,_|.se,_,_|.us _ _ _,_,_|.one,_,_|.ng _,_,_|.lx,_,_|.bb _ _ _,_,_=>⟨fun h=>.inl h,fun h=>h.elim id fun⟨_,_,_,h3⟩=>h3.elim⟩
theorem Hc(o:aq)(v:AV)(x:Nat×Nat):x∈(step E o v).lp↔(x∈E.lp\/∃i,o.dst=some i/\x.1=i/\bG v x.2):=by
 have h1:(step E o v).lp=(bZ (dr o E) v o.dst).lp:=by unfold step;cases o.dst<;>rfl
 grind [acF,Bx]
theorem Inv.eqv(h:Inv G n D E a w)(k:k9 E E'):Inv G n D E' a w:=
 ⟨h.ba,by rw[<-k.s];exact h.store,h.size,fun i v hv=>by
   rw[<-k.e i]
   exact du.frame (fun _ _ hv=>hv) (fun b _=>⟨rfl,rfl,rfl⟩) (fun _ _ _ _ hc=>⟨hc,rfl,rfl⟩) _ _ (fun t _ cs hcs=>⟨cs,by rw[k.e];exact hcs,rfl⟩) (h.cu i v hv),
   fun i hi=>by rw[<-k.e i];exact h.CL i hi,fun i t ht=>(k.lp _).1 (h.JY i t (by rw[k.e];exact ht)),h.pn⟩
theorem k9.step(h:k9 E E')(o:aq)(v:AV):k9 (AB.step E o v) (AB.step E' o v):=⟨fun i=>by rw[iI,iI,h.e],fun x=>by rw[Hc,Hc,h.lp],by rw[Ci,Ci,h.s]⟩
theorem O8{x y:aq}{u v:AV}(hne:∀i j,x.dst=some i->y.dst=some j->i≠j)(hxy:∀i,y.dst=some i->jN x i=false)(hyx:∀i,x.dst=some i->jN y i=false):k9 (step (step E x u) y v) (step (step E y v) x u):=
 ⟨fun i=>by
   rw[iI,iI,iI,iI]
   grind,fun z=>by
   grind [Hc],by grind [Ci]⟩
end
section
variable{P:Program}{G G':Gh}{n:Nat}{D:List Deferred}{E E':St}{a:Act}{w w':World}
theorem Inv.tz{d:Option Nat}{av:AV}(h:Inv G n D (E.put d (.iL [])) a w)(hd:bq n d=true)(hnl:∀t,¬bG av t):Inv G n D (E.put d (.when false av)) a w:=by
 cases d with
 |none=>exact h
 |some i=>
  have hi:=by simpa[bq]using hd
  have e1:look (E.put (some i) (.iL [])).e i=.iL []:=by simp[St.put,bc]
  have:=h.Js i hi (.when false av) hnl (fun cs e=>by grind) (fun v hv=>by
   have hs:=h.cu i v hv
   rw[e1]at hs
   obtain⟨ys,rfl,h2⟩:=hs
   refine⟨fun hh=>Bool.noConfusion hh,fun _=>?_⟩
   have:=Array.eq_empty_of_size_eq_zero (by simpa using h2.1)
   rw[this])
  refine this.eqv ⟨fun j=>?_,fun _=>Iff.rfl,rfl⟩
  grind [St.put,bc]
theorem tf{rs:List AV}(h:jA rs=true)(t:Nat):¬bG (fk rs) t:=by
 match rs,h with
 |[],_=>exact fun h=>h
 |[r],h=>exact B5 h t
 |_::_::_,_=>exact fun h=>h
theorem Sj{op:qN}{d:Option Nat}{v:AV}{K:St->Prop}(h:qe (xg true E) E.s op=.cQ v\/∃c,qe (xg true E) E.s op=.prt c v/\c)(hk:K (E.put d v)):iP P op d E K:=by
 cases op<;>first|(rcases h with h|⟨c,h,_⟩<;>cases h;done)|skip
 case iW x=>
  show pk E d K (xg true E x)
  have h':sK (xg true E x)=.cQ v\/∃c,sK (xg true E x)=.prt c v/\c:=h
  cases hx:xg true E x<;>rw[hx]at h'<;>first|(rcases h' with h'|⟨c,h',_⟩<;>cases h';done)|skip
  rcases h' with h'|⟨c,h',_⟩
  ·injection h' with h';subst h';exact hk
  ·cases h'
 case lookup kk z ok x k=>
  show OJ E d K (jQ kk z ok E.s (xg true E k) (xg true E x))
  have h':jQ kk z ok E.s (xg true E k) (xg true E x)=.cQ v\/∃c,jQ kk z ok E.s (xg true E k) (xg true E x)=.prt c v/\c:=h
  rcases h' with h'|⟨c,h',hc⟩<;>rw[h']
  ·exact hk
  ·exact⟨hc,hk⟩
 case tS x=>
  show OJ E d K (Cp (xg true E x))
  have h':Cp (xg true E x)=.cQ v\/∃c,Cp (xg true E x)=.prt c v/\c:=h
  rcases h' with h'|⟨c,h',hc⟩<;>rw[h']
  ·exact hk
  ·exact⟨hc,hk⟩
 case kJ x=>
  show OJ E d K (z7 (xg true E x))
  have h':z7 (xg true E x)=.cQ v\/∃c,z7 (xg true E x)=.prt c v/\c:=h
  rcases h' with h'|⟨c,h',hc⟩<;>rw[h']
  ·exact hk
  ·exact⟨hc,hk⟩
 case ij sz m z ps=>
  show wj sz m E d K (fill (xg true E) z ps)
  have h':ET sz m (fill (xg true E) z ps)=.cQ v\/∃c,ET sz m (fill (xg true E) z ps)=.prt c v/\c:=h
  cases hx:fill (xg true E) z ps<;>rw[hx]at h'
  ·rcases h' with h'|⟨c,h',_⟩<;>cases h'
  ·rcases h' with h'|⟨c,h',hc⟩
   ·cases h'
   ·injection h' with h1 h2;subst h1;subst h2;exact⟨hc,hk⟩
theorem Y.run(h:Inv G n D E a w){ops:Array Oper}{o:Oper}{o':aq}{v:AV}(hc:ik P n ops o o'=true)(hy:Y P E o' v){next:Act->World->Prop}{Q:Exit->Act->World->Prop}
 (hn:∀G' a' w',Inv G' n D (step E o' v) a' w'->aG G w G' w'->next a' w'):zT P ops o a w next Q:=by
 have gen:JX P o' E (fun τ=>τ=step E o' v)->zT P ops o a w next Q:=fun hg=>gI h hc hg fun G' E' a' w' h1 h2 h3=>by grind
 cases hy with
 |oj d x hi=>
  refine gen ?_
  show Rz E x d (fun τ=>τ=step E ⟨d,.oj true x,none⟩ (E.x x)) (E.x x)
  refine⟨hi,?_⟩
  show _=(bZ (E.drain x) (E.x x) d).put d (E.x x)
  rw[IK hi]
 |pure _ _ hq=>
  have hdr:dr o' E=E:=Qa (by grind)
  have dZ:step E o' v=(bZ E v o'.dst).put o'.dst v:=by unfold step;rw[hdr]
  rw[dZ]at hn gen
  obtain⟨d,op,g⟩:=o'
  cases g with
  |none=>
   refine gen ?_
   show Xn P op E d (fun τ=>τ=(bZ E v d).put d v) (pv op (xg true E) E)
   have hq':(pv op (xg true E) E=.cQ v\/∃c,pv op (xg true E) E=.prt c v/\c):=hq
   rcases hq' with hq|⟨c,hq,hcc⟩
   ·rw[hq];rfl
   ·rw[hq];exact⟨hcc,rfl⟩
  |some tw=>
   obtain⟨t,want⟩:=tw
   have hq':(Lx op want E (look E.e t)=.cQ v\/∃c,Lx op want E (look E.e t)=.prt c v/\c):=hq
   rcases aak (o:=op) (want:=want) (E:=E) (a:=look E.e t)with⟨g0,b,hg0,hl⟩|hl<;>rw[hl]at hq'
   case inr=>grind
   have hgs:=fun K=>Aj (P:=P) (o:=op) (d:=d) (t:=t) (want:=want) (E:=E) (K:=K) hg0
   generalize(g0&&(b==want))=gg at hq' hgs
   have hq2:(V6 (rdO op) gg (pv op (xg gg E) E)=.cQ v\/∃c,V6 (rdO op) gg (pv op (xg gg E) E)=.prt c v/\c):=hq'
   cases hp:pv op (xg gg E) E with
   |cQ x=>
    refine gen ?_
    show x7 P op d t want E _ (look E.e t)
    rw[hgs]
    show Pr P gg op E d (fun τ=>τ=(bZ E v d).put d v) (pv op (xg gg E) E)
    rw[hp]
    rw[hp]at hq2
    rcases hq2 with hq|⟨c,hq,_⟩
    ·injection hq with hq;subst hq;rfl
    ·cases hq
   |prt c x=>
    refine gen ?_
    show x7 P op d t want E _ (look E.e t)
    rw[hgs]
    show Pr P gg op E d (fun τ=>τ=(bZ E v d).put d v) (pv op (xg gg E) E)
    rw[hp]
    rw[hp]at hq2
    rcases hq2 with hq|⟨c',hq,hcc⟩
    ·cases hq
    ·injection hq with hq1 hq2;subst hq1;subst hq2;exact⟨hcc,rfl⟩
   |no=>
    rw[hp]at hq2
    cases hr:rdO op with
    |false=>
     rw[hr]at hq2
     have hq3:(PR.no=.cQ v\/∃c,PR.no=.prt c v/\c):=hq2
     grind
    |true=>
     rw[hr]at hq2
     have hq3:(PR.prt (gg=false) (.when gg .undef)=.cQ v\/∃c,PR.prt (gg=false) (.when gg .undef)=.prt c v/\c):=hq2
     rcases hq3 with hq|⟨c',hq,hcc⟩
     ·cases hq
     injection hq with hq1 hq2
     subst hq1;subst hq2
     have hd:bq n d=true:=by
      simp only[ik,Bool.and_eq_true]at hc
      exact hc.1.1.2
     refine gI (K:=fun τ=>τ=E.put d (.iL [])) h hc ?_ fun G' E' a' w' k1 k2 k3=>?_
     ·show x7 P op d t want E (fun τ=>τ=E.put d (.iL [])) (look E.e t)
      rw[hgs]
      show Pr P gg op E d (fun τ=>τ=E.put d (.iL [])) (pv op (xg gg E) E)
      rw[hp]
      exact⟨fun hb=>absurd (hb.symm.trans hcc) (by decide),fun _=>rfl⟩
     ·subst k3
      have e:(bZ E (.when gg .undef) d).put d (.when gg .undef)=E.put d (.when false .undef):=by
       rw[hcc]
       have:bZ E (.when false .undef) d=E:=by cases d<;>rfl
       show(bZ E (.when false .undef) d).put d _=_
       rw[this]
      have hn':=hn
      simp only at hn'
      rw[e]at hn'
      exact hn' G' a' w' (k1.tz hd (fun _ h=>h)) k2
 |call d f args as rs h1 h2 h3=>
  refine gen ?_
  show ue P f E d _ (cF (xg true E) args)
  rw[h1]
  refine FE.app h3 ⟨h2,?_⟩
  show _=(bZ E (fk rs) d).put d (fk rs)
  rw[ov h2]
 |HM d f args t want g0 b rs h0 h2 h1=>
  have hd:bq n d=true:=by
   simp only[ik,Bool.and_eq_true]at hc
   exact hc.1.1.2
  have dZ:step E ⟨d,.call f args,some (t,want)⟩ (.when (g0&&(b==want)) (fk rs))=E.put d (.when (g0&&(b==want)) (fk rs)):=by
   show(bZ E (.when (g0&&(b==want)) (fk rs)) d).put d (.when (g0&&(b==want)) (fk rs))=_
   have:bZ E (.when (g0&&(b==want)) (fk rs)) d=E:=ov h2 E d
   rw[this]
  rw[dZ]at hn
  refine gI (K:=fun τ=>((g0&&(b==want))=true/\τ=E.put d (fk rs))\/((g0&&(b==want))=false/\τ=E.put d (.iL []))) h hc ?_ fun G' E' a' w' k1 k2 k3=>?_
  ·show x7 P (.call f args) d t want E _ (look E.e t)
   rw[Aj h0]
   refine⟨fun hb=>?_,fun hb=>.inr ⟨hb,rfl⟩⟩
   obtain⟨as,q1,q2⟩:=h1 hb
   show ue P f E d _ (cF (xg true E) args)
   rw[q1]
   exact FE.app q2 ⟨h2,.inl ⟨hb,rfl⟩⟩
  ·rcases k3 with⟨hb,rfl⟩|⟨hb,rfl⟩
   ·rw[hb]at hn;exact hn G' a' w' (k1.sA hd) k2
   ·rw[hb]at hn;exact hn G' a' w' (k1.tz hd (tf h2)) k2
 |iC d x args f as rs h1 hf h2 h3=>
  obtain⟨first,eF,xs,q1,q2,rfl⟩:=h1
  refine gen ?_
  show uW P E (cF (xg true E) args) d _ (xg true E x)
  rw[q1,q2]
  refine⟨hf,FE.app h3 ⟨h2,?_⟩⟩
  show _=(bZ E (fk rs) d).put d (fk rs)
  rw[ov h2]
 |AQ d x args t want g0 b rs h0 h2 h1=>
  have hd:bq n d=true:=by
   simp only[ik,Bool.and_eq_true]at hc
   exact hc.1.1.2
  have dZ:step E ⟨d,.iC x args,some (t,want)⟩ (.when (g0&&(b==want)) (fk rs))=E.put d (.when (g0&&(b==want)) (fk rs)):=by
   show(bZ E (.when (g0&&(b==want)) (fk rs)) d).put d (.when (g0&&(b==want)) (fk rs))=_
   have:bZ E (.when (g0&&(b==want)) (fk rs)) d=E:=ov h2 E d
   rw[this]
  rw[dZ]at hn
  refine gI (K:=fun τ=>((g0&&(b==want))=true/\τ=E.put d (fk rs))\/((g0&&(b==want))=false/\τ=E.put d (.iL []))) h hc ?_ fun G' E' a' w' k1 k2 k3=>?_
  ·show x7 P (.iC x args) d t want E _ (look E.e t)
   rw[Aj h0]
   refine⟨fun hb=>?_,fun hb=>.inr ⟨hb,rfl⟩⟩
   obtain⟨f,as,⟨first,eF,xs,q1,q2,rfl⟩,q4,q5⟩:=h1 hb
   show uW P E (cF (xg true E) args) d _ (xg true E x)
   rw[q1,q2]
   exact⟨q4,FE.app q5 ⟨h2,.inl ⟨hb,rfl⟩⟩⟩
  ·rcases k3 with⟨hb,rfl⟩|⟨hb,rfl⟩
   ·rw[hb]at hn;exact hn G' a' w' (k1.sA hd) k2
   ·rw[hb]at hn;exact hn G' a' w' (k1.tz hd (tf h2)) k2
 |WN _ _ hq=>
  obtain⟨_,hnl,hlp,hdr⟩:=Si hq
  have dZ:step E o' v=E.put o'.dst v:=by unfold step;rw[hdr,hlp]
  obtain⟨d,op,g⟩:=o'
  cases g with
  |none=>
   refine gen ?_
   have hq':qe (xg true E) E.s op=.cQ v\/∃c,qe (xg true E) E.s op=.prt c v/\c:=hq
   show Xn P op E d (fun τ=>τ=step E ⟨d,op,none⟩ v) (pv op (xg true E) E)
   rw[(BU (hq'.imp id fun⟨c,h,_⟩=>⟨c,h⟩)).2.1]
   exact Sj hq' dZ.symm
  |some tw=>
   obtain⟨t,want⟩:=tw
   have hd:bq n d=true:=by
    simp only[ik,Bool.and_eq_true]at hc
    exact hc.1.1.2
   have hq':Ps op want E (look E.e t)=.cQ v\/∃c,Ps op want E (look E.e t)=.prt c v/\c:=hq
   rcases Sh (o:=op) (want:=want) (E:=E) (a:=look E.e t)with⟨g0,b,hg0,hl⟩|hl<;>rw[hl]at hq'
   case inr=>grind
   have hgs:=fun K=>Aj (P:=P) (o:=op) (d:=d) (t:=t) (want:=want) (E:=E) (K:=K) hg0
   generalize(g0&&(b==want))=gg at hq' hgs
   obtain⟨u,hu,hv⟩:∃u,(gg=true->(qe (xg true E) E.s op=.cQ u\/∃c,qe (xg true E) E.s op=.prt c u/\c))/\v=.when gg u:=by
    have h2:Tl gg (qe (xg gg E) E.s op)=.cQ v\/∃c,Tl gg (qe (xg gg E) E.s op)=.prt c v/\c:=hq'
    cases hq2:qe (xg gg E) E.s op with
    |cQ u=>
     rw[hq2]at h2
     refine⟨u,fun hb=>?_,?_⟩
     ·grind
     ·rcases h2 with h2|⟨c,h2,_⟩
      ·injection h2 with h2;exact h2.symm
      ·cases h2
    |prt c u=>
     rw[hq2]at h2
     rcases h2 with h2|⟨c',h2,hc'⟩
     ·cases h2
     ·injection h2 with h3 h4
      grind
    |no=>rw[hq2]at h2;rcases h2 with h2|⟨c,h2,_⟩<;>cases h2
   subst hv
   have hpn:∀f τ,pv op f τ=.no:=by
    intro f τ
    have h2:Tl gg (qe (xg gg E) E.s op)=.cQ _\/∃c,Tl gg (qe (xg gg E) E.s op)=.prt c _/\c:=hq'
    cases op<;>first|rfl|(rcases h2 with h2|⟨c,h2,_⟩<;>cases h2)
   rw[dZ]at hn
   refine gI (K:=fun τ=>(gg=true/\τ=E.put d u)\/(gg=false/\τ=E.put d (.iL []))) h hc ?_ fun G' E' a' w' k1 k2 k3=>?_
   ·show x7 P op d t want E _ (look E.e t)
    rw[hgs,hpn]
    unfold Pr
    refine⟨fun hb=>?_,fun hb=>.inr ⟨hb,rfl⟩⟩
    show Xn P op E d _ (pv op (xg true E) E)
    rw[hpn]
    exact Sj (hu hb) (.inl ⟨hb,rfl⟩)
   ·rcases k3 with⟨hb,rfl⟩|⟨hb,rfl⟩
    ·rw[hb]at hn;exact hn G' a' w' (k1.sA hd) k2
    ·rw[hb]at hn;exact hn G' a' w' (k1.tz hd fun t ht=>hnl t ht) k2
theorem Nc{ops:Array Oper}{Q:Exit->Act->World->Prop}{K:St->Prop}(G₀:Gh)(w₀:World)
 (hn:∀G' E' a' w',Inv G' n D E' a' w'->aG G₀ w₀ G' w'->K E'->Q .normal a' w'):∀(q:Nat)(l:List Oper)(l':List aq)(G:Gh)(E:St)(a:Act)(w:World),cz P n ops l l'=true->Inv G n D E a w->aG G₀ w₀ G w->XF P q l' E K->wpList P ops Q l a w
 |0,l,l',G,E,a,w,hc,h,hp,hk=>pU G₀ w₀ hn l l' G E a w hc h hp hk
 |_+1,[],[],G,E,a,w,_,h,hp,hk=>hn G E a w h hp hk
 |q+1,o::l,o'::l',G,E,a,w,hc,h,hp,hk=>by
  simp[cz,Bool.and_eq_true]at hc
  obtain⟨hf,hk⟩:=hk
  obtain⟨v,hv,hy,hk⟩:=Lw hk
  exact hy.run h hc.1 fun G' a' w' h1 h2=>Nc G₀ w₀ hn q l l' G' _ a' w' hc.2 h1 (hp.trans h2) hk
 |_+1,[],_::_,_,_,_,_,hc,_,_,_=>by simp[cz]at hc
 |_+1,_::_,[],_,_,_,_,hc,_,_,_=>by simp[cz]at hc
abbrev rn:=List (Nat×aq×AV)
def vT(P:Program):St->rn->Prop
 |_,[]=>True
 |E,(_,o,v)::r=>bp E o.dst=true/\bA v=true/\Y P E o v/\vT P (step E o v) r
def fin:St->rn->St
 |E,[]=>E
 |E,(_,o,v)::r=>fin (step E o v) r
theorem vT.eqv:∀{p:rn}{E E':St},k9 E E'->vT P E p->vT P E' p
 |[],_,_,_,_=>trivial
 |(_,o,v)::r,_,_,h,⟨h1,h2,h3,h4⟩=>⟨by rw[<-h.free];exact h1,h2,h3.J8 (h.J8 o),vT.eqv (h.step o v) h4⟩
theorem MB:∀(p:rn){E E':St},k9 E E'->k9 (fin E p) (fin E' p)
 |[],_,_,h=>h
 |(_,o,v)::r,_,_,h=>MB r (h.step o v)
theorem CN{o:aq}{i:Nat}(h:jN o i=true):i∈cu o:=by
 unfold jN at h
 split at h
 ·rename_i j hop
  have:j=i:=by grind
  subst this
  refine List.mem_append_right _ ?_
  rw[hop]
  exact List.mem_cons_self
 ·cases h
theorem TF{x y:aq}(h:ap x y=true):gV x.dst (cu y)=true/\gV y.dst (cu x)=true/\(∀i j,x.dst=some i->y.dst=some j->i≠j)/\RG x y=true/\RG y x=true/\(∀i,y.dst=some i->jN x i=false)/\(∀i,x.dst=some i->jN y i=false):=by
 unfold ap at h
 grind [gV,jN,absurd,CN]
theorem pull{x:Nat×aq×AV}:∀(pre:rn)(post:rn)(E:St),(∀y∈pre,ap y.2.1 x.2.1=true)->vT P E (pre++x::post)->
 bp E x.2.1.dst=true/\bA x.2.2=true/\Y P E x.2.1 x.2.2/\vT P (step E x.2.1 x.2.2) (pre++post)/\k9 (fin (step E x.2.1 x.2.2) (pre++post)) (fin E (pre++x::post))
 |[],post,E,_,h=>⟨h.1,h.2.1,h.2.2.1,h.2.2.2,k9.refl _⟩
 |(k,o,v)::pre,post,E,hap,h=>by
  obtain⟨h1,h2,h3,h4⟩:=h
  obtain⟨i1,i2,i3,i4,i5⟩:=pull pre post (step E o v) (fun y hy=>hap y (List.mem_cons_of_mem _ hy)) h4
  obtain⟨a1,a2,a3,a4,a5,a6,a7⟩:=TF (hap (k,o,v) List.mem_cons_self)
  have hfx:bp E x.2.1.dst=true:=by
   cases hd:x.2.1.dst with
   |none=>rfl
   |some j=>
    rw[hd]at i1
    have i1':bA (look (step E o v).e j)=true:=i1
    rw[iI]at i1'
    show bA (look E.e j)=true
    grind
  have hfo:bp (step E x.2.1 x.2.2) o.dst=true:=by
   cases hd:o.dst with
   |none=>rfl
   |some j=>
    rw[hd]at h1
    show bA (look (step E x.2.1 x.2.2).e j)=true
    rw[iI,if_neg (fun e=>a3 j j hd e rfl)]
    split
    ·grind
    ·exact h1
  have Ef:k9 (step (step E o v) x.2.1 x.2.2) (step (step E x.2.1 x.2.2) o v):=O8 a3 a6 a7
  refine⟨hfx,i2,i3.J8 (HA h1 h2 a1 a4).symm,⟨hfo,h2,h3.J8 (HA hfx i2 a2 a5),i4.eqv Ef⟩,?_⟩
  exact(MB (pre++post) Ef.symm).trans i5
end
section
variable{P:Program}{G G':Gh}{n:Nat}{D:List Deferred}{E E':St}{a:Act}{w w':World}{ops:Array Oper}{bJ:List aq}{q:Nat}
def mk:Nat->List aq->List AV->rn
 |k,o::l,v::vs=>(k,o,v)::mk (k+1) l vs
 |_,_,_=>[]
theorem Jr{K:St->Prop}:∀(q:Nat)(l:List aq)(E:St)(k:Nat),q<=l.length->XF P q l E K->∃vs:List AV,vs.length=q/\vT P E (mk k l vs)/\swp P (l.drop q) (fin E (mk k l vs)) K
 |0,l,E,k,_,h=>⟨[],rfl,by cases l<;>trivial,by cases l<;>exact h⟩
 |q+1,[],_,_,hl,_=>by grind
 |q+1,o::l,E,k,hl,h=>by
  obtain⟨hf,h1⟩:=h
  obtain⟨v,hv,hy,hk⟩:=Lw h1
  obtain⟨vs,h2,h3,h4⟩:=Jr q l (step E o v) (k+1) (by grind) hk
  exact⟨v::vs,by grind,⟨hf,hv,hy,h3⟩,h4⟩
theorem Gz:∀(l:List aq)(vs:List AV)(k:Nat)(i:Nat)(o:aq)(v:AV),(i,o,v)∈mk k l vs->∃j,i=k+j/\j<vs.length/\l[j]? =some o
 |[],_,_,_,_,_,h=>by simp[mk]at h
 |_::_,[],_,_,_,_,h=>by simp[mk]at h
 |o'::l,v'::vs,k,i,o,v,h=>by
  rcases List.mem_cons.1 h with h|h
  ·simp_all
  ·obtain⟨j,h1,h2,h3⟩:=Gz l vs (k+1) i o v h
   exact⟨j+1,by omega,by grind,by grind⟩
theorem yw:∀(l:List aq)(vs:List AV)(k:Nat),(mk k l vs).Pairwise fun x y=>x.1<y.1
 |[],_,_=>by simp[mk]
 |_::_,[],_=>by simp[mk]
 |o::l,v::vs,k=>by
  refine List.Pairwise.cons (fun y hy=>?_) (yw l vs (k+1))
  obtain⟨i,o',v'⟩:=y
  obtain⟨j,h1,_⟩:=Gz l vs (k+1) i o' v' hy
  omega
theorem Lg:∀(l:List aq)(vs:List AV)(k j:Nat),j<vs.length->j<l.length->∃o v,(k+j,o,v)∈mk k l vs
 |[],_,_,_,_,h=>by grind
 |_::_,[],_,_,h,_=>by grind
 |o::l,v::vs,k,0,_,_=>⟨o,v,List.mem_cons_self⟩
 |o::l,v::vs,k,j+1,h1,h2=>by
  obtain⟨o',v',h⟩:=Lg l vs (k+1) j (by grind) (by grind)
  refine⟨o',v',List.mem_cons_of_mem _ ?_⟩
  grind
theorem fU:∀(l:List Oper)(l':List aq),cz P n ops l l'=true->l.length=l'.length/\∀(k:Nat)(o:Oper)(o':aq),l[k]? =some o->l'[k]? =some o'->ik P n ops o o'=true
 |[],[],_=>⟨rfl,fun k o o' h=>by simp⟩
 |o::l,o'::l',h=>by
  simp[cz,Bool.and_eq_true]at h
  obtain⟨h1,h2⟩:=fU l l' h.2
  refine⟨by grind,fun k x x' hx hx'=>?_⟩
  cases k with
  |zero=>simp at hx hx';subst hx;subst hx';exact h.1
  |succ k=>exact h2 k x x' (by grind) (by grind)
 |[],_::_,h=>by simp[cz]at h
 |_::_,[],h=>by simp[cz]at h
theorem nP{Q:Exit->Act->World->Prop}{i:Nat}{o:Oper}{next:Act->World->Prop}(ho:ops[i]? =some o)(h:zT P ops o a w next Q):wpOp P ops Q i next a w:=by
 unfold wpOp
 simp[ho]
 exact h
theorem lQ{j i:Nat}{o:Oper}(ho:ops[j]? =some o):ib ops j i=true↔∃e∈o.after,Region.binds .any e=true/\e.on=i:=by
 unfold ib
 rw[ho]
 rw[Array.any_eq_true']
 grind
theorem vP{K:St->Prop}{Q:Exit->Act->World->Prop}(G₀:Gh)(w₀:World)(hc:cz P n ops ops.toList bJ=true)
 (hn:∀G' E' a' w',Inv G' n D E' a' w'->aG G₀ w₀ G' w'->K E'->Q .normal a' w'):∀(l:List aq)(k:Nat)(aU:Array Bool)(G:Gh)(E:St)(a:Act)(w:World),l=bJ.drop k->qj ops l.length k aU=true->
 swp P l E K->Inv G n D E a w->aG G₀ w₀ G w->wpAny P .any ops Q l.length aU a w
 |[],_,aU,G,E,a,w,_,ht,hk,h,hp=>⟨List.isEmpty_iff.1 ht,hn G E a w h hp hk⟩
 |o'::l,k,aU,G,E,a,w,hl,ht,hk,h,hp=>by
  have ht':(Region.ready .any ops aU==[k]&&qj ops l.length (k+1) (aU.setIfInBounds k true))=true:=ht
  simp[Bool.and_eq_true,beq_iff_eq]at ht'
  obtain⟨hr,ht'⟩:=ht'
  obtain⟨hlen,jD⟩:=fU _ _ hc
  have hk':=by
   have:(bJ.drop k)[0]? =some o':=by grind
   simpa using this
  have acW:l=bJ.drop (k+1):=by
   have:(bJ.drop k).tail=l:=by grind
   rw[<-this];simp
  have Ut:k<ops.toList.length:=by grind
  have ho:=List.getElem?_eq_getElem Ut
  refine⟨fun h0=>absurd h0 (by grind),fun i hi=>?_⟩
  rw[hr]at hi
  have:i=k:=by grind
  subst this
  refine nP (by simp) (gI h (jD i _ _ ho hk') hk fun G' E' a' w' h1 h2 h3=>?_)
  exact vP G₀ w₀ hc hn l (i+1) _ G' E' a' w' acW ht' h3 h1 (hp.trans h2)
structure Good(ops:Array Oper)(bJ:List aq)(q:Nat)(j6:rn)(aU:Array Bool):Prop where
 size:aU.size=ops.size
 un:∀k o v,(k,o,v)∈j6->k<q/\aU.getD k true=false/\bJ[k]? =some o
 li:∀k,k<q->(∀o v,(k,o,v)∉j6)->aU.getD k false=true
 tl:∀j,q<=j->j<ops.size->aU.getD j true=false
 cl:∀m,m<q->aU.getD m false=true->∀i,ib ops m i=true->aU.getD i false=true
 sorted:j6.Pairwise fun x y=>x.1<y.1
theorem wI{l:Array Bool}{i:Nat}(h:l.getD i false=true):l.getD i true=true:=by grind
theorem Nw{aU:Array Bool}(hg:Good ops bJ q [] aU):aU=oU ops.size q:=by
 apply Array.ext
 ·simp[oU,hg.size]
 ·intro i h1 h2
  simp[oU,Array.getElem_map]
  have hi:i<ops.size:=by rw[<-hg.size];exact h1
  by_cases hq:i<q
  ·have:=hg.li i hq (fun o v=>by simp)
   simp_all
  ·have:=hg.tl i (by omega) hi
   simp_all
theorem jZ{j:Nat}{aU:Array Bool}(h:j∈Region.ready .any ops aU):j<ops.size/\aU.getD j true=false/\∀i,ib ops j i=true->aU.getD i false=true:=by grind [mem_ready,Array.getElem?_eq_some_iff,lQ]
theorem Ee{pre post:rn}{x:Nat×aq×AV}{aU:Array Bool}(hg:Good ops bJ q (pre++x::post) aU)(hr:x.1∈Region.ready .any ops aU):Good ops bJ q (pre++post) (aU.setIfInBounds x.1 true):=by
 obtain⟨xk,xo,xv⟩:=x
 obtain⟨r1,r2,r3⟩:=jZ hr
 have hxq:xk<q:=(hg.un xk xo xv (by simp)).1
 have hxs:xk<aU.size:=by rw[hg.size];exact r1
 have jF:∀y,y∈pre++post->y∈pre++(xk,xo,xv)::post:=fun y hy=>by grind
 have y9:=List.pairwise_append.1 hg.sorted
 have QQ:∀y∈pre,y.1<xk:=fun y hy=>y9.2.2 y hy (xk,xo,xv) List.mem_cons_self
 have WZ:∀y∈post,xk<y.1:=fun y hy=>(List.pairwise_cons.1 y9.2.1).1 y hy
 have hne:∀y∈pre++post,y.1≠xk:=fun y hy=>by grind
 refine⟨by simp[hg.size],fun k o v hk=>?_,fun k hk hno=>?_,fun j h1 h2=>?_,fun m hm hl i hi=>?_,?_⟩
 ·obtain⟨u1,u2,u3⟩:=hg.un k o v (jF _ hk)
  exact⟨u1,by rw[getD_set_ne true (Ne.symm (hne _ hk))];exact u2,u3⟩
 ·by_cases hkx:xk=k
  ·simp_all
  ·rw[getD_set_ne false hkx]
   refine hg.li k hk fun o v hm=>?_
   grind
 ·rw[getD_set_ne true (by omega)];exact hg.tl j h1 h2
 ·by_cases hmx:xk=m
  ·grind [getD_set_true]
  ·rw[getD_set_ne false hmx]at hl
   exact getD_set_true (hg.cl m hm hl i hi)
 grind
theorem SA{Q:Exit->Act->World->Prop}(G₀:Gh)(w₀:World)(f:Nat)(hc:cz P n ops ops.toList bJ=true)(hq:q<=ops.size)(h1:Mg ops q=true)(h2:DZ ops q=true)(h3:WC ops q bJ=true)(h4:q<ops.size->Region.ready .any ops (oU ops.size q)=[q]):
 ∀(m:Nat)(j6:rn),j6.length=m->∀(aU:Array Bool)(E:St),Good ops bJ q j6 aU->vT P E j6->
  (∀G a w,Inv G n D (fin E j6) a w->aG G₀ w₀ G w->wpAny P .any ops Q f (oU ops.size q) a w)->∀(G:Gh)(a:Act)(w:World),Inv G n D E a w->aG G₀ w₀ G w->wpAny P .any ops Q (m+f) aU a w:=by
 intro m
 induction m with
 |zero=>
  intro j6 hp aU E hg _ hT G a w h hpr
  have:j6=[]:=List.eq_nil_of_length_eq_zero hp
  subst this
  rw[Nw hg,Nat.zero_add]
  exact hT G a w h hpr
 |succ m ih=>
  intro j6 hp aU E hg hch hT G a w h hpr
  obtain⟨hlen,jD⟩:=fU _ _ hc
  rw[show m+1+f=(m+f)+1 by omega]
  refine⟨fun h0=>?_,fun i hi=>?_⟩
  ·
   cases j6 with
   |nil=>simp at hp
   |cons x j6=>
    obtain⟨k,o,v⟩:=x
    obtain⟨u1,u2,u3⟩:=hg.un k o v List.mem_cons_self
    have Dk:k∈Region.ready .any ops aU:=by
     have hk:k<ops.size:=by omega
     refine mem_ready.2 ⟨u2,ops[k],Array.getElem?_eq_getElem hk,fun e he hb=>?_⟩
     have hs:=List.all_eq_true.1 h1 k (List.mem_range.2 u1)
     rw[Array.getElem?_eq_getElem hk]at hs
     have:=Array.all_eq_true_iff_forall_mem.1 hs e he
     rw[hb]at this
     have hlt:e.on<k:=by simpa using this
     refine hg.li e.on (by omega) fun o' v' hm=>?_
     rcases List.mem_cons.1 hm with hm|hm
     ·grind
     ·have:=(List.pairwise_cons.1 hg.sorted).1 _ hm
      grind
    grind
  ·obtain⟨r1,r2,r3⟩:=jZ hi
   have hne:∃k o v,(k,o,v)∈j6:=by
    cases j6 with
    |nil=>simp at hp
    |cons x j6=>grind
   have hiq:i<q:=by
    refine Classical.byContradiction fun hge=>?_
    have hqs:q<ops.size:=by omega
    by_cases hiq':i=q
    ·subst hiq'
     have dq:∀(d k:Nat),k<i->i -k=d->aU.getD k false=true:=by
      intro d
      induction d using Nat.strongRecOn with
      |_ d ihd=>
       intro k hk hd
       have hs:((List.range i).all fun k=>(List.range (i+1)).any fun m=>decide (k<m)&&ib ops m k)=true:=by
        unfold DZ at h2
        rw[Bool.or_eq_true]at h2
        rcases h2 with h2|h2
        ·grind
        ·exact h2
       obtain⟨m',hm1,hm2⟩:=List.any_eq_true.1 (List.all_eq_true.1 hs k (List.mem_range.2 hk))
       rw[Bool.and_eq_true,decide_eq_true_eq]at hm2
       have agN:=List.mem_range.1 hm1
       by_cases hmi:m'=i
       ·grind
       ·exact hg.cl m' (by omega) (ihd (i -m') (by omega) m' (by omega) rfl) k hm2.2
     obtain⟨k,o,v,hk⟩:=hne
     obtain⟨u1,u2,u3⟩:=hg.un k o v hk
     grind
    ·have hnr:i∉Region.ready .any ops (oU ops.size q):=by rw[h4 hqs];simpa using hiq'
     apply hnr
     refine mem_ready.2 ⟨?_,ops[i],Array.getElem?_eq_getElem r1,fun e he hb=>?_⟩
     ·simp[oU,r1];omega
     ·have hl:=r3 e.on ((lQ (Array.getElem?_eq_getElem r1)).2 ⟨e,he,hb,rfl⟩)
      have hlt:e.on<q:=by
       refine Classical.byContradiction fun hnl=>?_
       by_cases hs:e.on<ops.size
       ·have:=hg.tl e.on (by omega) hs
        grind
       ·have:aU.getD e.on false=false:=by simp[Array.getElem?_eq_none (show aU.size<=e.on by rw[hg.size];omega)]
        grind
      simp[oU,show e.on<ops.size by omega,hlt]
   have hin:∃o v,(i,o,v)∈j6:=by
    apply Classical.byContradiction
    intro hno
    have:=hg.li i hiq fun o v hm=>hno ⟨o,v,hm⟩
    have:=wI this
    rw[r2]at this
    cases this
   obtain⟨o',v,hin⟩:=hin
   obtain⟨pre,post,rfl⟩:=List.append_of_mem hin
   have y9:=List.pairwise_append.1 hg.sorted
   have hap:∀y∈pre,ap y.2.1 o'=true:=by
    intro y hy
    obtain⟨k,o,u⟩:=y
    have hlt:k<i:=y9.2.2 _ hy _ List.mem_cons_self
    obtain⟨u1,u2,u3⟩:=hg.un k o u (List.mem_append_left _ hy)
    obtain⟨_,_,u4⟩:=hg.un i o' v (by simp)
    have hs:=List.all_eq_true.1 (List.all_eq_true.1 h3 i (List.mem_range.2 hiq)) k (List.mem_range.2 hlt)
    rw[Bool.or_eq_true]at hs
    rcases hs with hs|hs
    ·grind
    ·grind [acf]
   obtain⟨p1,p2,p3,p4,p5⟩:=pull pre post E hap hch
   obtain⟨_,_,u4⟩:=hg.un i o' v (by simp)
   have ho:ops.toList[i]? =some ops[i]:=by simp[r1]
   refine nP (o:=ops[i]) (by simp[r1]) (Y.run h (jD i _ _ ho u4) p3 fun G' a' w' k1 k2=>?_)
   exact ih (pre++post) (by grind) _ (step E o' v) (Ee hg hi) p4 (fun G'' a'' w'' z1 z2=>hT G'' a'' w'' (z1.eqv p5) z2) G' a' w' k1 (hpr.trans k2)
theorem Yo(hm:P.follows .mixedOrders=true):Wh P n:=by
 intro D draw id ops bJ q G E a w K Q hc hd h hw hn
 cases draw with
 |false=>grind [wp_region_list,Nc,aG.refl]
 |true=>
 have hd:=hd rfl
 simp only[Mf,Bool.and_eq_true,decide_eq_true_eq]at hd
 obtain⟨hq,h1,h2,h3,h4⟩:=hd
 obtain⟨hlen,jD⟩:=fU _ _ hc
 have hsz:bJ.length=ops.size:=by rw[<-hlen];simp
 obtain⟨vs,e1,e2,e3⟩:=Jr q bJ E 0 (by omega) hw
 have hmk:(mk 0 bJ vs).length=q:=by
  have:∀(l:List aq)(vs:List AV)(k:Nat),vs.length<=l.length->(mk k l vs).length=vs.length:=by
   intro l
   induction l with
   |nil=>intro vs k hl;cases vs with
    |nil=>rfl
    |cons=>simp at hl
   |cons o l ih=>intro vs k hl;cases vs with
    |nil=>rfl
    |cons v vs=>grind [mk]
  rw[this bJ vs 0 (by omega),e1]
 refine wp_region_any hm ?_
 have hrq:q<ops.size->Region.ready .any ops (oU ops.size q)=[q]:=by
  intro hlt
  obtain⟨d,hd⟩:∃d,ops.size -q=d+1:=⟨ops.size -q -1,by omega⟩
  rw[hd]at h4
  simp only[qj,Bool.and_eq_true,beq_iff_eq]at h4
  exact h4.1
 have hT:∀G' a' w',Inv G' n D (fin E (mk 0 bJ vs)) a' w'->aG G w G' w'->wpAny P .any ops Q (ops.size -q) (oU ops.size q) a' w':=by
  intro G' a' w' z1 z2
  have hl:(bJ.drop q).length=ops.size -q:=by rw[List.length_drop];omega
  have:=vP G w hc hn (bJ.drop q) q (oU ops.size q) G' _ a' w' rfl (by grind) e3 z1 z2
  rwa[hl]at this
 have jE:Good ops bJ q (mk 0 bJ vs) (Array.replicate ops.size false):=by
  have KP:∀k b,k<ops.size->(Array.replicate ops.size false).getD k b=false:=fun k b hk=>by simp[hk]
  refine⟨by simp,fun k o v hk=>?_,fun k hk hno=>?_,fun j _ hj=>KP j _ hj,fun m hm hl i hi=>?_,yw bJ vs 0⟩
  ·obtain⟨j,j1,j2,j3⟩:=Gz bJ vs 0 k o v hk
   have:k=j:=by omega
   subst this
   exact⟨by omega,KP k _ (by omega),j3⟩
  ·obtain⟨o,v,hh⟩:=Lg bJ vs 0 k (by omega) (by omega)
   grind
  ·rw[KP m _ (by omega)]at hl;cases hl
 have:=SA (P:=P) (n:=n) (Q:=Q) G w (ops.size -q) hc hq h1 h2 h3 hrq q (mk 0 bJ vs) hmk _ E jE e2 hT G a {w with drawn:=w.drawn+1} h.drew (aG.drew G w)
 grind
end
end Go.AB
end
