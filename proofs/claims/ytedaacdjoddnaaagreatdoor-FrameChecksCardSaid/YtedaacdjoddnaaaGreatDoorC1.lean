/- A part of the proof: Ab1, Ab2, Ab3, Ab4, Ab5, Ab6, Ab7, Ab8, Ab9, Ab10. -/
import Derived.Orders
import Derived.Laws.Sem
import Derived.Attr
import Derived.Laws.Cells
import Derived.Laws.Strings
import Derived.Laws.Pointers
import Derived.Laws.Small
import Derived.LaidEqlPtr
import Derived.Laws.Concat
import Derived.Laws.BytesArg
import Derived.Laws.StructEq
set_option linter.unusedSimpArgs false
set_option linter.unusedVariables false
section
namespace Go.AB
open Go
inductive AV where
 | undef
 | bool (b : Bool)
 | int (k : IntKind) (n : Int)
 | str (s : List UInt8)
 | nilp
 | ref (b off : Nat)
 | lp (d off : Nat)
 | sp (cs : List AV)
 | loc (cs : List AV)
 | sl (own : Bool) (sz n : Nat) (cs : List AV)
 | arr (b off len cap : Nat)
 | agg (cs : List AV)
 | tup (vs : List AV)
 | fn (f : Nat) (first caps : List AV)
 | nilf
 | mp (b : Nat)
 | nilm
 | when (b : Bool) (a : AV)
 | us (sz n : Nat) (cs : List AV)
 | one
 | btag (t : Nat)
 | nili
 | bb (t n : Nat) (cs : List AV)
 deriving Inhabited
inductive SO where
 | cells (cs : List AV)
 | map (es : List (AV × AV))
 deriving Inhabited
abbrev Store := Nat → Option SO
def Store.set (s : Store) (b : Nat) (o : SO) : Store := fun i => if i = b then some o else s i
def Store.del (s : Store) (b : Nat) : Store := fun i => if i = b then none else s i
inductive KeyK where
 | int (k : IntKind)
 | str
 | bool
 | bytes (n : Nat)
 deriving Inhabited
inductive IX where
 | t (i : Nat)
 | c (a : AV)
 deriving Inhabited
inductive IOp where
 | mov (tr : Bool) (x : IX)
 | pick (c x y : IX)
 | allocL (zero : List AV)
 | allocS (zero : List AV)
 | boxL (n : Nat) (x : IX)
 | boxS (n : Nat) (x : IX)
 | build (zero : List AV) (parts : List (Nat × Nat × IX))
 | buildSl (sz len : Nat) (zero : List AV) (parts : List (Nat × Nat × IX))
 | load (n : Nat) (multi : Bool) (x : IX)
 | store (n : Nat) (p v : IX)
 | nilCheck (x : IX)
 | bin (op : BinOp) (x y : IX)
 | eqB (ne : Bool) (x y : IX)
 | eqP (ne : Bool) (x y : IX)
 | eqS (ne : Bool) (x y : IX)
 | un (op : UnOp) (x : IX)
 | cvtInt (k : IntKind) (x : IX)
 | cvtStr (x : IX)
 | cvtBytes (x : IX)
 | cvtId (x : IX)
 | field (n : Nat) (multi : Bool) (off : Nat) (x : IX)
 | index (n : Nat) (multi : Bool) (len : Nat) (x i : IX)
 | sindex (x i : IX)
 | fieldAddr (off : Nat) (x : IX)
 | indexAddr (zero : List AV) (x i : IX)
 | aindexAddr (sz len : Nat) (x i : IX)
 | slice (sz : Nat) (x : IX) (lo hi mx : Option IX)
 | sslice (x : IX) (lo hi : Option IX)
 | extract (x : IX) (k : Nat)
 | len (cls : Nat) (x : IX)
 | alen (n : Nat)
 | cap (x : IX)
 | minmax (mx : Bool) (xs : List IX)
 | append (sz bytes : Nat) (x y : IX)
 | makeSl (sz bytes : Nat) (zero : List AV) (l c : IX)
 | makeOw (sz bytes : Nat) (c : IX)
 | makeMap
 | lookup (kk : KeyK) (zero : AV) (ok : Bool) (x k : IX)
 | mapUpdate (kk : KeyK) (x k v : IX)
 | loadR (zero : List AV) (multi : Bool) (x : IX)
 | cvtRow (x : IX)
 | movT (x : IX)
 | call (f : Nat) (args : List IX)
 | callv (x : IX) (args : List IX)
 | makeFn (f : Nat) (first caps : List IX)
 | buildSlA (sz len : Nat) (zero : List AV) (parts : List (Nat × Nat × IX))
 | appendA (sz bytes : Nat) (zero : List AV) (x y : IX)
 | copyA (sz : Nat) (x y : IX)
 | clearA (zero : List AV) (x : IX)
 | frz (sz : Nat) (own : Bool) (x : IX)
 | loadD (x : IX)
 | eqN (ne : Bool) (x : IX)
 | ovl (f : Nat) (x y : IX)
 | callU (f i : Nat) (args : List IX)
 | eqA (n : Nat) (ne : Bool) (x y : IX)
 | appendZ (sz bytes : Nat) (zero : List AV) (x y : IX)
 | eqF (ne : Bool) (x : IX)
 | storeN (sz n : Nat) (p v : IX)
 | boxN (sz n : Nat) (x : IX)
 | loadE (off : Nat) (j x : IX)
 | loadI (k : IntKind) (x : IX)
 | eqI (ne : Bool) (x : IX)
 | loadF (sz : Nat) (own : Bool) (x : IX)
 | cvtU (x : IX)
 | callX (f : Nat) (x : IX)
 | cvtF (u : Nat) (x : IX)
 | boxT (n t j u : Nat) (x : IX)
 | appendB (t : Nat) (x y : IX)
 deriving Inhabited
structure IOper where
 dst : Option Nat
 op : IOp
 g : Option (Nat × Bool)
 deriving Inhabited
inductive IC where
 | skip
 | reg (q : Option Nat) (ops : List IOper) (live : List Nat)
 | regT (T : List Nat) (q : Nat) (ops : List IOper) (live : List Nat)
 | regB (T : List Nat) (l : List (Nat × Nat × IOper)) (live : List Nat)
 | regX (deps : List (List Bool)) (ops : List IOper) (live : List Nat)
 | seq (a b : IC)
 | cond (c : IX) (a b : IC)
 | block (id : Nat) (b : IC)
 | loop (live : List (Nat × Bool)) (b : IC)
 | join (live : List (Nat × Bool)) (a b : IC)
 | exit (id : Nat)
 | scope (b : IC)
 | scopeJ (l : Nat) (live : List (Nat × Bool)) (a1 a2 a3 r : IC)
 | label (l : Nat)
 | goto (l : Nat)
 | ret
 | dead
 deriving Inhabited
structure St where
 e : List (Nat × AV)
 lp : List (Nat × Nat)
 s : Store
def look : List (Nat × AV) → Nat → AV
 | [], _ => .undef
 | (j, a) :: l, i => bif j == i then a else look l i
def St.x (σ : St) : IX → AV
 | .t i => look σ.e i
 | .c a => a
def St.put (σ : St) (d : Option Nat) (a : AV) : St :=
 match d with
 | some d => { σ with e := (d, a) :: σ.e }
 | none => σ
def dropLp : AV → AV
 | .lp _ _ => .undef
 | .when _ _ => .undef
 | a => a
def St.keep (σ : St) (live : List Nat) : St := { e := live.map fun i => (i, dropLp (look σ.e i)), lp := [], s := σ.s }
def view : AV → AV
 | .sl _ sz n cs => .sl false sz n cs
 | .us _ _ _ => .undef
 | .btag _ => .nilp
 | .bb _ n cs => .sl false 1 n cs
 | a => a
def vwIf (b : Bool) (a : AV) : AV := bif b then view a else a
def St.keepV (σ : St) (live : List (Nat × Bool)) : St := { e := live.map fun p => (p.1, vwIf p.2 (dropLp (look σ.e p.1))), lp := [], s := σ.s }
def inner : AV → Bool
 | .loc _ => false
 | .when _ _ => false
 | _ => true
def unw (g : Bool) : AV → AV
 | .when b a => bif ((b == g) || b) && inner a then a else .undef
 | a => a
def hi64 : Int := 9223372036854775807
def isV : AV → Bool
 | .undef => false
 | .lp _ _ => false
 | .loc _ => false
 | .tup _ => false
 | .when _ _ => false
 | .us _ _ _ => false
 | .btag _ => false
 | _ => true
def wrapI (k : IntKind) (n : Int) : Int := k.wrap n
inductive PR where
 | tot (a : AV)
 | prt (c : Prop) (a : AV)
 | no
def kEq (k k' : IntKind) : Bool := decide (k = k')
def kk (k k' : IntKind) (r : PR) : PR := bif kEq k k' then r else .no
def binI (op : BinOp) (k k' : IntKind) (a b : Int) : PR :=
 match op with
 | .shl => .prt (0 ≤ b) (.int k (wrapI k (a * 2 ^ (min b.toNat k.bits))))
 | .shr => .prt (0 ≤ b) (.int k (a.fdiv (2 ^ (min b.toNat k.bits))))
 | .add => kk k k' (.tot (.int k (wrapI k (a + b))))
 | .sub => kk k k' (.tot (.int k (wrapI k (a - b))))
 | .mul => kk k k' (.tot (.int k (wrapI k (a * b))))
 | .quo => kk k k' (.prt (b ≠ 0) (.int k (wrapI k (a.tdiv b))))
 | .rem => kk k k' (.prt (b ≠ 0) (.int k (a.tmod b)))
 | .and => kk k k' (.tot (.int k (k.wrap (BitVec.ofInt k.bits a &&& BitVec.ofInt k.bits b).toNat)))
 | .or => kk k k' (.tot (.int k (k.wrap (BitVec.ofInt k.bits a ||| BitVec.ofInt k.bits b).toNat)))
 | .xor => kk k k' (.tot (.int k (k.wrap (BitVec.ofInt k.bits a ^^^ BitVec.ofInt k.bits b).toNat)))
 | .andNot => kk k k' (.tot (.int k (k.wrap (BitVec.ofInt k.bits a &&& ~~~BitVec.ofInt k.bits b).toNat)))
 | .eql => kk k k' (.tot (.bool (a == b)))
 | .neq => kk k k' (.tot (.bool (a != b)))
 | .lss => kk k k' (.tot (.bool (decide (a < b))))
 | .leq => kk k k' (.tot (.bool (decide (a ≤ b))))
 | .gtr => kk k k' (.tot (.bool (decide (a > b))))
 | .geq => kk k k' (.tot (.bool (decide (a ≥ b))))
def binS (op : BinOp) (a b : List UInt8) : PR :=
 match op with
 | .add => .prt (((a.length + b.length : Nat) : Int) ≤ hi64) (.str (a ++ b))
 | .eql => .tot (.bool (a == b))
 | .neq => .tot (.bool (!(a == b)))
 | .lss => .tot (.bool (Op.bytesLess a b))
 | .leq => .tot (.bool (Op.bytesLess a b || a == b))
 | .gtr => .tot (.bool (!(Op.bytesLess a b || a == b)))
 | .geq => .tot (.bool (!Op.bytesLess a b))
 | _ => .no
def binV (op : BinOp) (x y : AV) : PR :=
 match x, y with
 | .int k a, .int k' b => binI op k k' a b
 | .str a, .str b => binS op a b
 | _, _ => .no
def eqBV (ne : Bool) (x y : AV) : PR :=
 match x, y with
 | .bool a, .bool b => .tot (.bool ((a == b) != ne))
 | _, _ => .no
def eqPV (ne : Bool) (x y : AV) : PR :=
 match x, y with
 | .nilp, .nilp => .tot (.bool (!ne))
 | .ref _ _, .nilp => .tot (.bool ne)
 | .nilp, .ref _ _ => .tot (.bool ne)
 | .ref b o, .ref b' o' => bif b == b' && o == o' then .tot (.bool (!ne)) else .no
 | _, _ => .no
def eqSV (ne : Bool) (x y : AV) : PR :=
 match x, y with
 | .sl _ _ (_ + 1) _, .sl _ _ 0 [] => .tot (.bool ne)
 | .arr _ _ _ (_ + 1), .sl _ _ 0 [] => .tot (.bool ne)
 | _, _ => .no
def allInts : List AV → List AV → Bool
 | [], [] => true
 | .int k _ :: r, .int k' _ :: s => kEq k k' && allInts r s
 | _, _ => false
def eqInts : List AV → List AV → Bool
 | .int _ a :: r, .int _ b :: s => (a == b) && eqInts r s
 | _, _ => true
def eqAV (n : Nat) (ne : Bool) (x y : AV) : PR :=
 match x, y with
 | .agg cs, .agg ds => bif allInts cs ds && cs.length == n then .tot (.bool (eqInts cs ds != ne)) else .no
 | _, _ => .no
def eqIV (ne : Bool) : AV → PR
 | .nili => .tot (.bool (!ne))
 | _ => .no
def eqFV (ne : Bool) : AV → PR
 | .fn _ _ _ => .tot (.bool ne)
 | .nilf => .tot (.bool (!ne))
 | _ => .no
def cellsOf : AV → List AV
 | .agg cs => cs
 | a => [a]
def aggOf (multi : Bool) (cs : List AV) : AV := match multi, cs with
 | true, cs => .agg cs
 | false, a :: _ => a
 | false, [] => .undef
def sub (cs : List AV) (off n : Nat) : List AV := (cs.drop off).take n
def views (cs : List AV) : List AV := cs.map view
def stCells : AV → List AV
 | .agg cs => views cs
 | a => [a]
def setAt (cs : List AV) (off : Nat) (news : List AV) : List AV := cs.take off ++ news ++ cs.drop (off + news.length)
def bx (b : Bool) : AV → Option Bool
 | .bool x => some x
 | .when b' (.bool x) => bif (b' == b) || b' then some x else none
 | _ => none
def fill (f : IX → AV) (cells : List AV) : List (Nat × Nat × IX) → Option (List AV)
 | [] => some cells
 | (off, n, x) :: r =>
  let c := views (cellsOf (f x))
  bif isV (f x) && (c.length == n && decide (off + n ≤ cells.length)) then fill f (setAt cells off c) r else none
def rdCells (n off : Nat) (cs : List AV) : Option (List AV) := bif decide (off + n ≤ cs.length) then some (views (sub cs off n)) else none
def rdLoc (n off : Nat) : AV → Option (List AV)
 | .loc cs => rdCells n off cs
 | _ => none
def rdSO (n off : Nat) : Option SO → Option (List AV)
 | some (.cells cs) => rdCells n off cs
 | _ => none
def rd (σ : St) (p : AV) (n : Nat) : Option (List AV) :=
 match p with
 | .loc cs => rdCells n 0 cs
 | .lp d off => rdLoc n off (look σ.e d)
 | .sp cs => rdCells n 0 cs
 | .ref b off => rdSO n off (σ.s b)
 | _ => none
def ixV (f : IX → AV) (o : Option IX) (dflt : Int) : Option Int :=
 match o with
 | none => some dflt
 | some x => match f x with
  | .int _ n => some n
  | _ => none
def minL (mx : Bool) : Int → List AV → Option Int
 | a, [] => some a
 | a, .int _ b :: r => minL mx (bif mx then max a b else min a b) r
 | _, _ => none
def flatV : AV → Bool
 | .agg _ => false
 | a => isV a
def Fl (cs : List AV) : Prop := ∀ c ∈ cs, flatV c = true
def FlT (t : Nat) (cs : List AV) : Prop := ∀ c ∈ cs, flatV c = true ∨ c = .btag t
def movV (a : AV) : PR := bif isV a then .tot (view a) else .no
def gv1 : AV → Option (Bool × Bool)
 | .bool x => some (true, x)
 | .when b (.bool x) => some (b, x)
 | _ => none
def pickB (b : Bool) : Option (Bool × Bool) → Option (Bool × Bool) → PR
 | some (g1, p), some (g2, q) => .prt ((b = true → g1 = true) ∧ (b = false → g2 = true)) (.bool (bif b then p else q))
 | _, _ => .no
def gv2 : AV → Option (Bool × Bool)
 | .tup [] => some (false, false)
 | a => gv1 a
def pickV (x y : AV) : AV → PR
 | .bool b => pickB b (gv2 x) (gv2 y)
 | _ => .no
def ckV (a : AV) : PR := bif isV a then .tot a else .no
def ckP (c : Prop) (a : AV) : PR := bif isV a then .prt c a else .no
def unV : UnOp → AV → PR
 | .not, .bool b => .tot (.bool (!b))
 | .neg, .int k n => .tot (.int k (wrapI k (0 - n)))
 | _, _ => .no
def cvtIntV (k : IntKind) : AV → PR
 | .int _ n => .tot (.int k (wrapI k n))
 | _ => .no
def cvtIdV : AV → PR
 | .str s => .tot (.str s)
 | _ => .no
def loadV (multi : Bool) : Option (List AV) → PR
 | some cs => ckV (aggOf multi cs)
 | none => .no
def fieldV (n : Nat) (multi : Bool) (off : Nat) : AV → PR
 | .agg cs => bif decide (off + n ≤ cs.length) then ckV (view (aggOf multi (sub cs off n))) else .no
 | _ => .no
def indexV (n : Nat) (multi : Bool) (len : Nat) : AV → AV → PR
 | .agg cs, .int _ k => bif len * n == cs.length then ckP (0 ≤ k ∧ k < len) (view (aggOf multi (sub cs (k.toNat * n) n))) else .no
 | _, _ => .no
def sindexV : AV → AV → PR
 | .str s, .int _ k => .prt (0 ≤ k ∧ k < s.length) (.int .u8 (s.getD k.toNat 0).toNat)
 | _, _ => .no
def nilCheckV : AV → PR
 | .ref b off => .tot (.ref b off)
 | _ => .no
def locA (c : Prop) (off : Nat) : IX → PR
 | .t i => .prt (c) (.lp i off)
 | .c _ => .no
def fieldAddrV (off : Nat) (x : IX) : AV → PR
 | .lp d o => .tot (.lp d (o + off))
 | .sp cs => bif decide (off ≤ cs.length) then .tot (.sp (cs.drop off)) else .no
 | .ref b o => .tot (.ref b (o + off))
 | .loc _ => locA True off x
 | _ => .no
def pad (zero cs : List AV) : List AV := bif cs.length == zero.length then cs else zero
def indexAddrV (zero : List AV) : AV → AV → PR
 | .sl _ s n cs, .int _ k => bif s == zero.length then .prt (0 ≤ k ∧ k < n) (.sp (pad zero (views (sub cs (k.toNat * zero.length) zero.length)))) else .no
 | .arr b off n _, .int _ k => .prt (0 ≤ k ∧ k < n) (.ref b (off + k.toNat * zero.length))
 | _, _ => .no
def aindexAddrV (sz len : Nat) (x : IX) : AV → AV → PR
 | .lp d o, .int _ k => .prt (0 ≤ k ∧ k < len) (.lp d (o + k.toNat * sz))
 | .sp cs, .int _ k => bif decide (len * sz ≤ cs.length) then .prt (0 ≤ k ∧ k < len) (.sp (cs.drop (k.toNat * sz))) else .no
 | .ref b o, .int _ k => .prt (0 ≤ k ∧ k < len) (.ref b (o + k.toNat * sz))
 | .loc _, .int _ k => locA (0 ≤ k ∧ k < len) (k.toNat * sz) x
 | _, _ => .no
def sliceSl (sz n : Nat) (cs : List AV) : Option Int → Option Int → PR
 | some l, some h => bif Nat.ble 1 sz then .prt (0 ≤ l ∧ l ≤ h ∧ h ≤ n) (.sl false sz ((sub cs (l.toNat * sz) ((h - l).toNat * sz)).length / sz) (sub cs (l.toNat * sz) ((h - l).toNat * sz))) else .no
 | _, _ => .no
def arrOff (off cap l sz : Nat) : Nat := bif cap == l then off else off + l * sz
def sliceArr (sz b off cap : Nat) : Option Int → Option Int → PR
 | some l, some h => .prt (0 ≤ l ∧ l ≤ h ∧ h ≤ cap) (.arr b (arrOff off cap l.toNat sz) (h - l).toNat (cap - l.toNat))
 | _, _ => .no
def slice3Arr (sz b off cap : Nat) : Option Int → Option Int → Option Int → PR
 | some l, some h, some m => .prt (0 ≤ l ∧ l ≤ h ∧ h ≤ m ∧ m ≤ cap) (.arr b (arrOff off m.toNat l.toNat sz) (h - l).toNat (m.toNat - l.toNat))
 | _, _, _ => .no
def slice3V (sz : Nat) (f : IX → AV) (lo hi : Option IX) (mx : IX) : AV → PR
 | .arr b off _ cap => slice3Arr sz b off cap (ixV f lo 0) (bif hi.isSome then ixV f hi 0 else none) (ixV f (some mx) 0)
 | _ => .no
def capV : AV → PR
 | .arr _ _ _ cap => .tot (.int .i64 cap)
 | _ => .no
def sliceV (sz : Nat) (f : IX → AV) (lo hi : Option IX) : AV → PR
 | .sl _ s n cs => bif s == sz then sliceSl sz n cs (ixV f lo 0) (ixV f hi n) else .no
 | .arr b off n cap => sliceArr sz b off cap (ixV f lo 0) (ixV f hi n)
 | _ => .no
def sliceStr (s : List UInt8) : Option Int → Option Int → PR
 | some l, some h => .prt (0 ≤ l ∧ l ≤ h ∧ h ≤ s.length) (.str ((s.drop l.toNat).take (h - l).toNat))
 | _, _ => .no
def sliceStrV (f : IX → AV) (lo hi : Option IX) : AV → PR
 | .str s => sliceStr s (ixV f lo 0) (ixV f hi s.length)
 | _ => .no
def lenMap : Option SO → PR
 | some (.map es) => .tot (.int .i64 es.length)
 | _ => .no
def lenV (s : Store) : Nat → AV → PR
 | 0, .sl _ _ n _ => .tot (.int .i64 n)
 | 0, .arr _ _ n _ => .tot (.int .i64 n)
 | 1, .str s => .tot (.int .i64 s.length)
 | 2, .nilm => .tot (.int .i64 0)
 | 2, .mp b => lenMap (s b)
 | _, _ => .no
def minK (k : IntKind) : Option Int → PR
 | some m => .tot (.int k m)
 | none => .no
def minmaxV (mx : Bool) : List AV → PR
 | .int k n :: r => minK k (minL mx n r)
 | _ => .no
def extractO : Option AV → PR
 | some a => ckV (view a)
 | none => .no
def extractV (k : Nat) : AV → PR
 | .tup vs => extractO vs[k]?
 | _ => .no
def byteOf : AV → Option UInt8
 | .int .u8 n => if 0 ≤ n ∧ n < 256 then some (UInt8.ofNat n.toNat) else none
 | _ => none
def consO {α : Type} : Option α → Option (List α) → Option (List α)
 | some a, some l => some (a :: l)
 | _, _ => none
def bytesOf : List AV → Option (List UInt8)
 | [] => some []
 | a :: r => consO (byteOf a) (bytesOf r)
def strPR : Option (List UInt8) → PR
 | some l => .tot (.str l)
 | none => .no
def cvtStrV : AV → PR
 | .sl _ sz _ cs => bif sz == 1 then strPR (bytesOf cs) else .no
 | _ => .no
def buildV : Option (List AV) → PR
 | some cs => .tot (.agg cs)
 | none => .no
def argC (a : AV) : Option (List AV) → Option (List AV)
 | some l => bif isV a then some (view a :: l) else none
 | none => none
def argsV (f : IX → AV) : List IX → Option (List AV)
 | [] => some []
 | x :: r => argC (f x) (argsV f r)
def makeFnV (fi : Nat) : Option (List AV) → Option (List AV) → PR
 | some a, some b => .tot (.fn fi a b)
 | _, _ => .no
def loadS (zero : List AV) (multi : Bool) (off : Nat) : Option SO → PR
 | some (.cells cs) => ckP (off + zero.length ≤ cs.length) (aggOf multi (pad zero (views (sub cs off zero.length))))
 | _ => .no
def loadP (zero : List AV) (multi : Bool) (s : Store) : AV → PR
 | .ref b off => loadS zero multi off (s b)
 | _ => .no
def loadIc (k : IntKind) (off : Nat) : Option SO → Prop
 | some (.cells cs) => ∃ n, cs[off]? = some (.int k n)
 | _ => False
def intOf : Option AV → Int
 | some (.int _ n) => n
 | _ => 0
def loadIv (off : Nat) : Option SO → Int
 | some (.cells cs) => intOf cs[off]?
 | _ => 0
def loadIP (k : IntKind) (s : Store) : AV → PR
 | .ref b off => .prt (loadIc k off (s b)) (.int k (loadIv off (s b)))
 | _ => .no
def pv (o : IOp) (f : IX → AV) (σ : St) : PR :=
 match o with
 | .mov false x => movV (f x)
 | .pick c x y => pickV (σ.x x) (σ.x y) (f c)
 | .bin op x y => binV op (f x) (f y)
 | .eqB ne x y => eqBV ne (f x) (f y)
 | .eqP ne x y => eqPV ne (f x) (f y)
 | .eqS ne x (.c (.sl true z 0 [])) => eqSV ne (f x) (.sl true z 0 [])
 | .un op x => unV op (f x)
 | .cvtInt k x => cvtIntV k (f x)
 | .cvtId x => cvtIdV (f x)
 | .load n multi x => loadV multi (rd σ (f x) n)
 | .field n multi off x => fieldV n multi off (f x)
 | .index n multi len x i => indexV n multi len (f x) (f i)
 | .sindex x i => sindexV (f x) (f i)
 | .nilCheck x => nilCheckV (f x)
 | .fieldAddr off x => fieldAddrV off x (f x)
 | .indexAddr zero x i => indexAddrV zero (f x) (f i)
 | .aindexAddr sz len x i => aindexAddrV sz len x (f x) (f i)
 | .slice sz x lo hi none => sliceV sz f lo hi (f x)
 | .sslice x lo hi => sliceStrV f lo hi (f x)
 | .len cls x => lenV σ.s cls (f x)
 | .alen n => .tot (.int .i64 n)
 | .minmax mx xs => minmaxV mx (xs.map f)
 | .extract x k => extractV k (f x)
 | .build zero parts => buildV (fill f zero parts)
 | .makeFn fi first caps => makeFnV fi (argsV f first) (argsV f caps)
 | .cvtStr x => cvtStrV (f x)
 | .loadR zero multi x => loadP zero multi σ.s (f x)
 | .loadI k x => loadIP k σ.s (f x)
 | .slice sz x lo hi (some mx) => slice3V sz f lo hi mx (f x)
 | .cap x => capV (f x)
 | .eqA n ne x y => eqAV n ne (f x) (f y)
 | .eqF ne x => eqFV ne (f x)
 | .eqI ne x => eqIV ne (f x)
 | _ => .no
end Go.AB
end

section
namespace Go.AB
open Go
inductive Owner where
 | none
 | frame
 | slot (i j : Nat)
 | loc (i : Nat)
 | sh
 | cell (b j : Nat)
 | res (j : Nat)
 deriving DecidableEq
structure Gh where
 R : Nat → Nat
 O : Nat → Owner
inductive VR (w : World) (R : Nat → Nat) : AV → Value → Prop where
 | undef (v : Value) : VR w R .undef v
 | bool (b : Bool) : VR w R (.bool b) (.bool b)
 | int (k : IntKind) (n : Int) : VR w R (.int k n) (.int k n)
 | str (s : List UInt8) : VR w R (.str s) (.string ⟨s.toArray⟩)
 | nilp : VR w R .nilp (.pointer none)
 | ref (b off : Nat) : VR w R (.ref b off) (.pointer (some ⟨b, off, none⟩))
 | sp (cs : List AV) (b off : Nat) (u : Nat → Value) (hf : Fl cs) (hR : off + cs.length ≤ R b)
   (hc : ∀ (j : Nat) (c : AV), cs[j]? = some c → w.cell? ⟨b, off + j, none⟩ = some (u j)) (hr : ∀ (j : Nat) (c : AV), cs[j]? = some c → VR w R c (u j)) :
   VR w R (.sp cs) (.pointer (some ⟨b, off, none⟩))
 | slnil (own : Bool) (sz : Nat) : VR w R (.sl own sz 0 []) (.slice none 0 0)
 | sle (sz : Nat) (a : Addr) (cap : Nat) : VR w R (.sl false sz 0 []) (.slice (some a) 0 cap)
 | sl (own : Bool) (sz n : Nat) (cs : List AV) (b off cap : Nat) (u : Nat → Value) (hf : Fl cs) (hl : cs.length = n * sz) (hR : off + cs.length ≤ R b) (hcap : n ≤ cap)
   (hc : ∀ (j : Nat) (c : AV), cs[j]? = some c → w.cell? ⟨b, off + j, none⟩ = some (u j)) (hr : ∀ (j : Nat) (c : AV), cs[j]? = some c → VR w R c (u j)) :
   VR w R (.sl own sz n cs) (.slice (some ⟨b, off, none⟩) n cap)
 | arr (b off len cap : Nat) : VR w R (.arr b off len cap) (.slice (some ⟨b, off, none⟩) len cap)
 | arr0 (b off : Nat) : VR w R (.arr b off 0 0) (.slice none 0 0)
 | agg (cs : List AV) (vs : Array Value) (hf : Fl cs) (hl : vs.size = cs.length) (hr : ∀ (j : Nat) (c : AV) (v : Value), cs[j]? = some c → vs[j]? = some v → VR w R c v) : VR w R (.agg cs) (.agg vs)
 | tup (cs : List AV) (vs : Array Value) (hl : vs.size = cs.length) (hr : ∀ (j : Nat) (c : AV) (v : Value), cs[j]? = some c → vs[j]? = some v → VR w R c v) : VR w R (.tup cs) (.tuple vs)
 | fn (f : Nat) (first caps : List AV) (vf vc : Array Value) (hl : vf.size = first.length) (hr : ∀ (j : Nat) (c : AV) (v : Value), first[j]? = some c → vf[j]? = some v → VR w R c v)
   (hl' : vc.size = caps.length) (hr' : ∀ (j : Nat) (c : AV) (v : Value), caps[j]? = some c → vc[j]? = some v → VR w R c v) : VR w R (.fn f first caps) (.func (.func f) vf vc)
 | nilf : VR w R .nilf .nilFunc
 | mp (b : Nat) : VR w R (.mp b) (.map (some b))
 | nilm : VR w R .nilm (.map none)
 | when (b : Bool) (a : AV) (v : Value) (h : b = true → VR w R a v) : VR w R (.when b a) v
 | one (v : Value) (h : v.oneCell' = true) : VR w R .one v
 | btag (t : Nat) : VR w R (.btag t) (.pointer none)
 | nili : VR w R .nili .nilIface
 | bb (t n : Nat) (cs : List AV) (v : Value) (h : VR w R (.sl true 1 n cs) v) (h0 : n = 0 → v = .slice none 0 0) : VR w R (.bb t n cs) v
def OwnR (G : Gh) (w : World) (o : Owner) (a : AV) (v : Value) : Prop :=
 match a with
 | .sl true sz n _ => ∀ base m cap, v = .slice base m cap → (cap ≠ n ∨ 0 < n) →
   ∃ b off c e fz, base = some ⟨b, off, none⟩ ∧ G.O b = o ∧ G.R b = off + n * sz ∧ w.heap[b]? = some (.cells c e fz) ∧ c.size = off + cap * sz ∧
    (∀ k, k < c.size → ¬ (fz.1 ≤ k ∧ k < fz.2)) ∧ fz.1 ≤ fz.2 ∧ off = 0 ∧ (fz = (0, 0) ∨ (0 < n ∧ ∃ x, c[0]? = some (.int .u8 x))) ∧
    ∀ (k : Nat) (y : Value), off + n * sz ≤ k → c[k]? = some y → y.oneCell' = true
 | .bb e n _ => ∀ base m cap, v = .slice base m cap → (cap ≠ n ∨ 0 < n) →
   ∃ b off c fz, base = some ⟨b, off, none⟩ ∧ G.O b = o ∧ G.R b = off + n * 1 ∧ w.heap[b]? = some (.cells c e fz) ∧ c.size = off + cap * 1 ∧
    (∀ k, k < c.size → ¬ (fz.1 ≤ k ∧ k < fz.2)) ∧ fz.1 ≤ fz.2 ∧ off = 0 ∧ (fz = (0, 0) ∨ (0 < n ∧ ∃ x, c[0]? = some (.int .u8 x))) ∧
    ∀ (k : Nat) (y : Value), off + n * 1 ≤ k → c[k]? = some y → y.oneCell' = true
 | _ => True
def CellsR (G : Gh) (w : World) (o : Nat → Owner) (cs : List AV) (c : Array Value) : Prop :=
 c.size = cs.length ∧ ∀ (j : Nat) (x : AV) (y : Value), cs[j]? = some x → c[j]? = some y → VR w G.R x y ∧ OwnR G w (o j) x y
def UsR (G : Gh) (w : World) (o : Owner) (sz n : Nat) (cs : List AV) (v : Value) : Prop :=
 (n = 0 ∧ cs = [] ∧ (v = .slice none 0 0 ∨ ∃ b off, v = .slice (some ⟨b, off, none⟩) 0 0)) ∨
 ∃ b cap c t sp, 0 < cap ∧ n ≤ cap ∧ v = .slice (some ⟨b, 0, none⟩) n cap ∧ G.O b = o ∧ G.R b = 0 ∧ w.heap[b]? = some (.cells c t (0, 0)) ∧ c.size = cap * sz ∧ cs.length = n * sz ∧ (cs ++ sp).length = cap * sz ∧
  (∀ (j : Nat) (x : AV) (u : Value), (cs ++ sp)[j]? = some x → c[j]? = some u → VR w G.R x u) ∧ Fl (cs ++ sp) ∧ views (cs ++ sp) = cs ++ sp
def ValS (G : Gh) (w : World) (e : List (Nat × AV)) (tmps : Array Value) (i : Nat) : AV → Value → Prop
 | .loc cs, v => ∃ b c t, v = .pointer (some ⟨b, 0, none⟩) ∧ G.O b = .loc i ∧ G.R b = 0 ∧ w.heap[b]? = some (.cells c t (0, 0)) ∧ CellsR G w (.cell b) cs c ∧ Fl cs
 | .lp d off, v => ∃ b, v = .pointer (some ⟨b, off, none⟩) ∧ ∀ cs, look e d = .loc cs → tmps[d]? = some (.pointer (some ⟨b, 0, none⟩))
 | .tup vs, v => ∃ ys : Array Value, v = .tuple ys ∧ CellsR G w (fun j => .slot i (j + 1)) vs ys
 | .when b a, v => (b = true → ValS G w e tmps i a v) ∧ (b = false → v = .tuple #[])
 | .us sz n cs, v => UsR G w (.slot i 0) sz n cs v
 | a, v => VR w G.R a v ∧ OwnR G w (.slot i 0) a v
def holdsLp : AV → Nat → Prop
 | .lp d _, d' => d = d'
 | .when _ a, d' => holdsLp a d'
 | _, _ => False
structure GoodW (G : Gh) (w : World) : Prop where
 newO : ∀ b, w.heap.size ≤ b → G.O b = .none
 newR : ∀ b, w.heap.size ≤ b → G.R b = 0
def EntR (G : Gh) (w : World) (x : AV × AV) (y : MapEntry) : Prop := VR w G.R x.1 y.key ∧ VR w G.R x.2 y.val
def StoreR (G : Gh) (w : World) (s : Store) : Prop :=
 ∀ b o, s b = some o → G.O b = .sh ∧ G.R b = 0 ∧ match o with
  | .cells cs => ∃ c t, w.heap[b]? = some (.cells c t (0, 0)) ∧ CellsR G w (.cell b) cs c ∧ FlT t cs
  | .map es => ∃ ents clock, w.heap[b]? = some (.map ents clock) ∧ ents.size = es.length ∧ ∀ (j : Nat) (x : AV × AV) (y : MapEntry), es[j]? = some x → ents[j]? = some y → EntR G w x y
structure Inv (G : Gh) (n : Nat) (D : List Deferred) (σ : St) (a : Act) (w : World) : Prop where
 good : GoodW G w
 store : StoreR G w σ.s
 size : a.tmps.size = n
 slots : ∀ (i : Nat) (v : Value), a.tmps[i]? = some v → ValS G w σ.e a.tmps i (look σ.e i) v
 dom : ∀ i, n ≤ i → look σ.e i = .undef
 lps : ∀ i d, holdsLp (look σ.e i) d → (i, d) ∈ σ.lp
 def0 : a.defers = D
structure Pres (G : Gh) (w : World) (G' : Gh) (w' : World) : Prop where
 os : w'.os = w.os
 tape : w'.tape = w.tape
 output : w'.output = w.output
 drawn : w.drawn ≤ w'.drawn
 size : w.heap.size ≤ w'.heap.size
 mono : ∀ b, b < w.heap.size → G.R b ≤ G'.R b
 stable : ∀ b k, b < w.heap.size → k < G.R b → w'.cell? ⟨b, k, none⟩ = w.cell? ⟨b, k, none⟩
 frame : ∀ b, b < w.heap.size → G.O b = .frame ∨ G.O b = .none → w'.heap[b]? = w.heap[b]?
 frameO : ∀ b, b < w.heap.size → G.O b = .frame → G'.O b = .frame ∧ G'.R b = G.R b
 noneO : ∀ b, b < w.heap.size → G.O b = .none → G'.O b = .none ∧ G'.R b = G.R b
def res1R (G : Gh) (w : World) (a : AV) (v : Value) : Prop :=
 match a with
 | .us sz n cs => UsR G w (.res 0) sz n cs v
 | a => VR w G.R a v ∧ OwnR G w (.res 0) a v
def ResR (G : Gh) (w : World) (rs : List AV) (v : Value) : Prop :=
 match rs with
 | [a] => res1R G w a v
 | rs => ∃ ys : Array Value, v = .tuple ys ∧ CellsR G w (fun j => .res j) rs ys
def Outer (G : Gh) : Prop := ∀ b, G.O b = .none ∨ G.O b = .frame ∨ G.O b = .sh ∨ ∃ b' j, G.O b = .cell b' j ∧ G.O b' = .sh
def ArgsR (w : World) (R : Nat → Nat) (args : List AV) (vs : Array Value) : Prop :=
 vs.size = args.length ∧ ∀ (j : Nat) (a : AV) (v : Value), args[j]? = some a → vs[j]? = some v → VR w R a v
def FN (P : Program) (f : FuncId) (args : List AV) (s : Store) (Q : List AV → Store → Prop) : Prop :=
 ∀ (G : Gh) (w : World) (vs : Array Value), GoodW G w → Outer G → StoreR G w s → ArgsR w G.R args vs →
  Calls P f vs w fun e w' => ∃ v rs s' G', e = .returned v ∧ Q rs s' ∧ GoodW G' w' ∧ StoreR G' w' s' ∧ ResR G' w' rs v ∧ Pres G w G' w'
theorem FN.mono {P : Program} {f : FuncId} {args : List AV} {s : Store} {Q Q' : List AV → Store → Prop} (h : FN P f args s Q) (hq : ∀ rs s', Q rs s' → Q' rs s') : FN P f args s Q' :=
 fun G w vs h1 h2 h3 h4 => (h G w vs h1 h2 h3 h4).mono fun _ _ ⟨v, rs, s', G', a, b, c⟩ => ⟨v, rs, s', G', a, hq _ _ b, c⟩
def FE (P : Program) (f : FuncId) (args : List AV) (s : Store) (rs : List AV) (s' : Store) : Prop := FN P f args s fun r t => r = rs ∧ t = s'
theorem FE.app {P : Program} {f : FuncId} {args : List AV} {s s' : Store} {rs : List AV} {Q : List AV → Store → Prop} (h : FE P f args s rs s') (hq : Q rs s') : FN P f args s Q :=
 FN.mono h fun _ _ ⟨h1, h2⟩ => by rw [h1, h2]; exact hq
def retV : List AV → AV
 | [a] => a
 | rs => .tup rs
def room : Nat := 140737488355328
def lpFree (lp : List (Nat × Nat)) (d : Option Nat) : Bool := match d with
 | some d => lp.all fun x => !Nat.beq x.2 d
 | none => true
def St.drain (σ : St) (x : IX) : St := match x with
 | .t i => σ.put (some i) (view (look σ.e i))
 | .c _ => σ
def wrCells (off : Nat) (news : List AV) (old : List AV) : Option (List AV) := bif decide (off + news.length ≤ old.length) then some (setAt old off news) else none
def wrL (σ : St) (d : Nat) : Option (List AV) → Option St
 | some cs => some (σ.put (some d) (.loc cs))
 | none => none
def wrS (σ : St) (b : Nat) : Option (List AV) → Option St
 | some cs => some { σ with s := σ.s.set b (.cells cs) }
 | none => none
def wrLoc (σ : St) (d off : Nat) (news : List AV) : AV → Option St
 | .loc old => wrL σ d (wrCells off news old)
 | _ => none
def wrSO (σ : St) (b off : Nat) (news : List AV) : Option SO → Option St
 | some (.cells old) => wrS σ b (wrCells off news old)
 | _ => none
def wrIx (σ : St) (news old : List AV) : IX → Option St
 | .t d => wrL σ d (wrCells 0 news old)
 | .c _ => none
def wrSt (σ : St) (p : AV) (i : IX) (news : List AV) : Option St :=
 match p with
 | .loc old => wrIx σ news old i
 | .lp d off => wrLoc σ d off news (look σ.e d)
 | .ref b off => wrSO σ b off news (σ.s b)
 | _ => none
def keyEq : AV → AV → Bool
 | .int _ a, .int _ b => a == b
 | .str a, .str b => a == b
 | .bool a, .bool b => a == b
 | _, _ => false
def keyEqs : List AV → List AV → Bool
 | [], [] => true
 | a :: x, b :: y => keyEq a b && keyEqs x y
 | _, _ => false
def keyIs (a b : AV) : Bool := keyEqs (cellsOf a) (cellsOf b)
def findK (k : AV) : List (AV × AV) → Option AV
 | [] => none
 | x :: r => bif keyIs k x.1 then some x.2 else findK k r
def putK (k v : AV) : List (AV × AV) → List (AV × AV)
 | [] => [(k, v)]
 | x :: r => bif keyIs k x.1 then (k, v) :: r else x :: putK k v r
section
variable (P : Program)
def movW (σ : St) (x : IX) (d : Option Nat) (K : St → Prop) (a : AV) : Prop := isV a = true ∧ K ((σ.drain x).put d a)
def boxLW (n : Nat) (σ : St) (d : Option Nat) (K : St → Prop) (a : AV) : Prop := isV a = true ∧ (cellsOf a).length = n ∧ K (σ.put d (.loc (views (cellsOf a))))
def boxSW (n : Nat) (σ : St) (d : Option Nat) (K : St → Prop) (a : AV) : Prop :=
 isV a = true ∧ (cellsOf a).length = n ∧ ∀ b, σ.s b = none → K ({ σ with s := σ.s.set b (.cells (views (cellsOf a))) }.put d (.ref b 0))
def buildSlW (sz n : Nat) (σ : St) (d : Option Nat) (K : St → Prop) : Option (List AV) → Prop
 | some cs => cs.length = n * sz ∧ K (σ.put d (.sl true sz n cs))
 | none => False
def stK (d : Option Nat) (K : St → Prop) : Option St → Prop
 | some τ => K (τ.put d (.tup []))
 | none => False
def storeW (n : Nat) (σ : St) (p : IX) (v : IX) (d : Option Nat) (K : St → Prop) (a : AV) : Prop :=
 isV a = true ∧ (stCells a).length = n ∧ stK d K (wrSt (σ.drain v) (σ.x p) p (stCells a))
def appendW (sz bytes : Nat) (σ : St) (x : IX) (d : Option Nat) (K : St → Prop) : AV → AV → Prop
 | .sl true s n cs, .sl _ s' m ds => s = sz ∧ (s' = sz ∨ m = 0) ∧ (n + m) * bytes ≤ room ∧ K ((σ.drain x).put d (.sl true sz (n + m) (cs ++ views ds)))
 | .sl true s n cs, .str ds => s = sz ∧ sz = 1 ∧ (n + ds.length) * bytes ≤ room ∧ K ((σ.drain x).put d (.sl true sz (n + ds.length) (cs ++ ds.map fun c => .int .u8 c.toNat)))
 | _, _ => False
def cvtStrW (σ : St) (d : Option Nat) (K : St → Prop) : AV → Prop
 | .sl _ sz _ cs => sz = 1 ∧ ∃ s : List UInt8, cs = (s.map fun c => .int .u8 c.toNat) ∧ K (σ.put d (.str s))
 | _ => False
def nonE : List UInt8 → Bool
 | [] => false
 | _ :: _ => true
def cvtBytesW (σ : St) (d : Option Nat) (K : St → Prop) : AV → Prop
 | .str s => K (σ.put d (.sl (nonE s) 1 s.length (s.map fun c => .int .u8 c.toNat)))
 | _ => False
def makeSlW (bytes : Nat) (zero : List AV) (σ : St) (d : Option Nat) (K : St → Prop) : AV → AV → Prop
 | .int _ l, .int _ c => 0 ≤ l ∧ l ≤ c ∧ c * bytes ≤ room ∧
   ∀ b, σ.s b = none → K ({ σ with s := σ.s.set b (.cells ((List.replicate c.toNat zero).flatten)) }.put d (.arr b 0 l.toNat c.toNat))
 | _, _ => False
def makeOwW (sz bytes : Nat) (σ : St) (d : Option Nat) (K : St → Prop) : AV → Prop
 | .int _ c => 0 ≤ c ∧ c * bytes ≤ room ∧ K (σ.put d (.sl true sz 0 []))
 | _ => False
def okV (ok : Bool) (a : AV) (b : Bool) : AV := match ok with
 | true => .tup [a, .bool b]
 | false => a
def isU8 : AV → Bool
 | .int .u8 _ => true
 | _ => false
def keyOK : KeyK → AV → Bool
 | .int k, .int k' _ => kEq k k'
 | .str, .str _ => true
 | .bool, .bool _ => true
 | .bytes n, .agg cs => cs.length == n && cs.all isU8
 | _, _ => false
def keysOK (kk : KeyK) (es : List (AV × AV)) : Bool := es.all fun x => keyOK kk x.1
def lookV (zero : AV) (ok : Bool) : Option AV → AV
 | some v => okV ok (view v) true
 | none => okV ok (view zero) false
def plainV : AV → Bool
 | .tup _ => true
 | a => isV a
def plainL : Bool → AV → Bool
 | true, _ => true
 | false, a => isV a
def ckL (ok : Bool) (c : Prop) (a : AV) : PR := bif plainL ok a then .prt c a else .no
def lookupO (kk : KeyK) (zero : AV) (ok : Bool) (k : AV) : Option SO → PR
 | some (.map es) => ckL ok (keyOK kk k = true ∧ keysOK kk es = true) (lookV zero ok (findK k es))
 | _ => .no
def lookupV (kk : KeyK) (zero : AV) (ok : Bool) (s : Store) (k : AV) : AV → PR
 | .mp b => lookupO kk zero ok k (s b)
 | .nilm => ckL ok (keyOK kk k = true) (okV ok (view zero) false)
 | _ => .no
def rowV : AV → PR
 | .sl true 1 (n + 1) (.int .u8 x :: cs) => .tot (.sl false 1 (n + 1) (.int .u8 x :: cs))
 | _ => .no
def tupV : AV → PR
 | .tup vs => .tot (.tup (views vs))
 | _ => .no
def prK (σ : St) (d : Option Nat) (K : St → Prop) : PR → Prop
 | .tot a => K (σ.put d a)
 | .prt c a => c ∧ K (σ.put d a)
 | .no => False
def updO (kk : KeyK) (b : Nat) (σ : St) (k v : AV) (d : Option Nat) (K : St → Prop) : Option SO → Prop
 | some (.map es) => (isV v = true ∧ keyOK kk k = true ∧ keysOK kk es = true) ∧ K ({ σ with s := σ.s.set b (.map (putK (view k) (view v) es)) }.put d (.tup []))
 | _ => False
def mapUpdW (kk : KeyK) (σ : St) (k v : AV) (d : Option Nat) (K : St → Prop) : AV → Prop
 | .mp b => updO kk b σ k v d K (σ.s b)
 | _ => False
def isUs : AV → Bool
 | .us _ _ _ => true
 | _ => false
def rsOK : List AV → Bool
 | [a] => isV a || isUs a
 | _ => true
def callK (σ : St) (d : Option Nat) (K : St → Prop) (rs : List AV) (s' : Store) : Prop := rsOK rs = true ∧ K ({ σ with s := s' }.put d (retV rs))
def callW (f : Nat) (σ : St) (d : Option Nat) (K : St → Prop) : Option (List AV) → Prop
 | some args => FN P f args σ.s (callK σ d K)
 | none => False
def fnOK (f : FuncId) : Bool := match P.funcs[f]? with
 | some fn => fn.name != "runtime.NumGoroutine" && fn.body.isSome
 | none => false
def callvA (f : Nat) (first caps : List AV) (σ : St) (d : Option Nat) (K : St → Prop) : Option (List AV) → Prop
 | some args => fnOK P f = true ∧ FN P f (first ++ args ++ caps) σ.s (callK σ d K)
 | none => False
def callvW (σ : St) (args : Option (List AV)) (d : Option Nat) (K : St → Prop) : AV → Prop
 | .fn f first caps => callvA P f first caps σ d K args
 | _ => False
def xg (g : Bool) (σ : St) (x : IX) : AV := unw g (σ.x x)
def thawW (i : Nat) (σ : St) (W : St → Prop) : AV → Prop
 | .us sz n cs => (∀ b cap sp, σ.s b = none → 0 < cap → n ≤ cap → (cs ++ sp).length = cap * sz → Fl (cs ++ sp) → views sp = sp → W ({ σ with s := σ.s.set b (.cells (cs ++ sp)) }.put (some i) (.arr b 0 n cap))) ∧
   (n = 0 → ∀ b off, W (σ.put (some i) (.arr b off 0 0)))
 | _ => False
def nilC (sz : Nat) : AV → AV
 | .arr _ 0 0 0 => .sl true sz 0 []
 | a => a
def stCellsN (sz : Nat) : AV → List AV
 | .agg cs => (views cs).map (nilC sz)
 | a => [a]
def storeNW (sz n : Nat) (σ : St) (p : IX) (v : IX) (d : Option Nat) (K : St → Prop) (a : AV) : Prop :=
 isV a = true ∧ (stCellsN sz a).length = n ∧ stK d K (wrSt (σ.drain v) (σ.x p) p (stCellsN sz a))
def boxNW (sz n : Nat) (σ : St) (d : Option Nat) (K : St → Prop) (a : AV) : Prop :=
 isV a = true ∧ (cellsOf a).length = n ∧ ∀ b, σ.s b = none → K ({ σ with s := σ.s.set b (.cells ((views (cellsOf a)).map (nilC sz))) }.put d (.ref b 0))
def buildSlAW (sz n : Nat) (σ : St) (d : Option Nat) (K : St → Prop) : Option (List AV) → Prop
 | some cs => cs.length = n * sz ∧ ∀ b, σ.s b = none → K ({ σ with s := σ.s.set b (.cells (views cs)) }.put d (.arr b 0 n n))
 | none => False
def cellsAt (m sz off : Nat) : Option SO → Option (Nat × List AV)
 | some (.cells cs) => bif decide (off + m * sz ≤ cs.length) then some (m, views (sub cs off (m * sz))) else none
 | _ => none
def srcV (s : Store) (sz : Nat) : AV → Option (Nat × List AV)
 | .sl _ s' m ds => bif s' == sz then some (m, views ds) else bif m == 0 then some (0, []) else none
 | .str l => bif sz == 1 then some (l.length, l.map fun c => .int .u8 c.toNat) else none
 | .arr b off m _ => bif m == 0 then some (0, []) else cellsAt m sz off (s b)
 | _ => none
def oldsV (s : Store) (sz b off n : Nat) : Option (List AV) := bif n == 0 then some [] else (cellsAt n sz off (s b)).map Prod.snd
def roomyV (sz b off cap : Nat) : Option SO → Prop
 | some (.cells cs) => off + cap * sz ≤ cs.length
 | _ => False
def setRow (s : Store) (b off : Nat) (news : List AV) : Option SO → Store
 | some (.cells cs) => s.set b (.cells (setAt cs off news))
 | _ => s
def appA (sz bytes : Nat) (zero : List AV) (σ : St) (d : Option Nat) (K : St → Prop) (b off n cap m : Nat) (ds : List AV) : Option (List AV) → Prop
 | some olds => zero.length = sz ∧ (n + m ≤ cap → (m = 0 ∧ K (σ.put d (.arr b off n cap))) ∨ (roomyV sz b off cap (σ.s b) ∧ K ({ σ with s := setRow σ.s b (off + n * sz) ds (σ.s b) }.put d (.arr b off (n + m) cap)))) ∧
   (cap < n + m → (n + m) * bytes ≤ room ∧ ∀ b' cap', σ.s b' = none → n + m ≤ cap' → K ({ σ with s := σ.s.set b' (.cells (olds ++ ds ++ (List.replicate (cap' - (n + m)) zero).flatten)) }.put d (.arr b' 0 (n + m) cap')))
 | none => False
def appendAW (sz bytes : Nat) (zero : List AV) (σ : St) (d : Option Nat) (K : St → Prop) : AV → Option (Nat × List AV) → Prop
 | .arr b off n cap, some (m, ds) => appA sz bytes zero σ d K b off n cap m ds (oldsV σ.s sz b off n)
 | _, _ => False
def appendZW (sz bytes : Nat) (zero : List AV) (σ : St) (d : Option Nat) (K : St → Prop) : AV → AV → Prop
 | .arr b off n cap, .int .i64 c => 0 ≤ c ∧ cap < n + c.toNat ∧ views zero = zero ∧ appA sz bytes zero σ d K b off n cap c.toNat (List.replicate c.toNat zero).flatten (oldsV σ.s sz b off n)
 | _, _ => False
def copyAW (sz : Nat) (σ : St) (d : Option Nat) (K : St → Prop) : AV → Option (Nat × List AV) → Prop
 | .arr b off n _, some (m, ds) => (min m n = 0 ∧ K (σ.put d (.int .i64 0))) ∨ (roomyV sz b off n (σ.s b) ∧ K ({ σ with s := setRow σ.s b off (ds.take (min m n * sz)) (σ.s b) }.put d (.int .i64 (min m n : Nat))))
 | _, _ => False
def clearAW (zero : List AV) (σ : St) (d : Option Nat) (K : St → Prop) : AV → Prop
 | .arr b off n _ => (n = 0 ∧ K (σ.put d (.tup []))) ∨ (roomyV zero.length b off n (σ.s b) ∧ views zero = zero ∧ K ({ σ with s := setRow σ.s b off (List.replicate n zero).flatten (σ.s b) }.put d (.tup [])))
 | _ => False
def OvlIs (P : Program) (f : FuncId) : Prop := ∀ (w : World) (a b : Nat) (oa la ca ob lb cb : Nat) (ta tb : TypeId) (x y : Array Value) (fa : Nat × Nat), a ≠ b → w.heap[a]? = some (.cells x ta fa) → x.size ≠ 0 → w.heap[b]? = some (.cells y tb (0, 0)) → y.size ≠ 0 →
 ∃ w', (callFunc f #[.slice (some ⟨a, oa, none⟩) la ca, .slice (some ⟨b, ob, none⟩) lb cb]).run P w = .ok (.value (.bool false)) w' ∧ w'.heap = w.heap ∧ w'.os = w.os ∧ w'.tape = w.tape ∧ w'.output = w.output ∧ w.drawn ≤ w'.drawn
def cellsIn : Option SO → Prop
 | some (.cells (_ :: _)) => True
 | _ => False
def ovlW (P : Program) (f : FuncId) (σ : St) (d : Option Nat) (K : St → Prop) : AV → AV → Prop
 | .sl _ _ (_ + 1) (_ :: _), .arr b' _ _ (_ + 1) => OvlIs P f ∧ cellsIn (σ.s b') ∧ K (σ.put d (.bool false))
 | _, _ => False
def frzW (sz : Nat) (own : Bool) (σ : St) (d : Option Nat) (K : St → Prop) : AV → Prop
 | .arr b off n cap => (cap = 0 ∧ n = 0 ∧ off = 0 ∧ K (σ.put d (.sl own sz 0 []))) ∨ (0 < cap ∧ n ≤ cap ∧ (own = true → off = 0 ∧ roomyV sz b off cap (σ.s b) ∧ sizeV (off + cap * sz) (σ.s b)) ∧ frzK sz own σ d K b n (cellsAt n sz off (σ.s b)))
 | _ => False
where
 sizeV (k : Nat) : Option SO → Prop
  | some (.cells cs) => cs.length = k
  | _ => False
 frzK (sz : Nat) (own : Bool) (σ : St) (d : Option Nat) (K : St → Prop) (b n : Nat) : Option (Nat × List AV) → Prop
  | some (_, cs) => K ({ σ with s := σ.s.del b }.put d (.sl own sz n cs))
  | none => False
def loadFW (sz : Nat) (own : Bool) (σ : St) (d : Option Nat) (K : St → Prop) : Option (List AV) → Prop
 | some [a] => isV a = true ∧ frzW sz own σ d K a
 | _ => False
def takeC (off : Nat) (cs : List AV) (k : List AV → AV → Prop) : Prop := match cs[off]? with
 | some (.sl o sz n ds) => k (setAt cs off [.sl false sz n ds]) (.sl o sz n ds)
 | some (.bb t n ds) => k (setAt cs off [.sl false 1 n ds]) (.bb t n ds)
 | _ => False
def takeL (off : Nat) (cs : List AV) (k : List AV → AV → Prop) : Prop := match cs[off]? with
 | some (.sl o sz n ds) => k (setAt cs off [.sl false sz n ds]) (.sl o sz n ds)
 | _ => False
def loadDW (σ : St) (d : Option Nat) (K : St → Prop) : AV → Prop
 | .ref b off => match σ.s b with
  | some (.cells cs) => takeC off cs fun cs' a => K ({ σ with s := σ.s.set b (.cells cs') }.put d a)
  | _ => False
 | .lp i off => match look σ.e i with
  | .loc cs => d ≠ some i ∧ takeL off cs fun cs' a => K ((σ.put (some i) (.loc cs')).put d a)
  | _ => False
 | _ => False
def isLpAt (j : IX) (off : Nat) (a : AV) : Bool := match j, a with
 | .t i, .lp i' o => i' == i && o == off
 | _, _ => false
def eqNW (ne : Bool) (σ : St) (d : Option Nat) (K : St → Prop) : AV → Prop
 | .sl _ _ n _ => ∀ v : Bool, (v = !ne → n = 0) → K (σ.put d (.bool v))
 | .arr _ _ _ cap => ∀ v : Bool, (v = !ne → cap = 0) → K (σ.put d (.bool v))
 | _ => False
def cvtUS (d : Option Nat) (K : St → Prop) (σ : St) (b off : Nat) : Option SO → Prop
 | some (.cells cs) => off < cs.length ∧ K (σ.put d (.ref b off))
 | _ => False
def cvtUW (σ : St) (d : Option Nat) (K : St → Prop) : AV → Prop
 | .ref b off => cvtUS d K σ b off (σ.s b)
 | _ => False
def liesB (t cells off u : Nat) : Bool := liesAt P P.depth t (cells / P.cellsOf t) off u 1
def cvtFS (u : Nat) (d : Option Nat) (K : St → Prop) (σ : St) (b off : Nat) : Option SO → Prop
 | some (.cells cs) => ∃ t, cs[off]? = some (.btag t) ∧ liesB P t cs.length off u = true ∧ K (σ.put d (.ref b off))
 | _ => False
def cvtFW (u : Nat) (σ : St) (d : Option Nat) (K : St → Prop) : AV → Prop
 | .ref b off => cvtFS P u d K σ b off (σ.s b)
 | _ => False
def idFn (f : Nat) : Prop := ∀ (x : Value) (w : World), (callFunc f #[x]).run P w = .ok (.value x) w
def callXW (f : Nat) (σ : St) (d : Option Nat) (K : St → Prop) (a : AV) : Prop := isV a = true ∧ idFn P f ∧ K (σ.put d (view a))
def boxTW (n t j u : Nat) (σ : St) (d : Option Nat) (K : St → Prop) (a : AV) : Prop :=
 isV a = true ∧ (cellsOf a).length = n ∧ (cellsOf a)[j]? = some .nilp ∧ (cellsOf a)[j + 1]? = some (.bb u 0 []) ∧ ∀ b, σ.s b = none → K ({ σ with s := σ.s.set b (.cells (setAt (views (cellsOf a)) j [.btag t, .bb u 0 []])) }.put d (.ref b 0))
def appendBW (t : Nat) (σ : St) (x : IX) (d : Option Nat) (K : St → Prop) : AV → AV → Prop
 | .bb t' n cs, .sl _ s' m ds => t = t' ∧ (s' = 1 ∨ m = 0) ∧ (n + m) * 1 ≤ room ∧ K ((σ.drain x).put d (.bb t (n + m) (cs ++ views ds)))
 | .bb t' n cs, .str ds => t = t' ∧ (n + ds.length) * 1 ≤ room ∧ K ((σ.drain x).put d (.bb t (n + ds.length) (cs ++ ds.map fun c => .int .u8 c.toNat)))
 | _, _ => False
def iwp (o : IOp) (d : Option Nat) (σ : St) (K : St → Prop) : Prop :=
 match o with
 | .mov _ x => movW σ x d K (σ.x x)
 | .allocL zero => lpFree σ.lp d = true ∧ K (σ.put d (.loc zero))
 | .allocS zero => ∀ b, σ.s b = none → K ({ σ with s := σ.s.set b (.cells zero) }.put d (.ref b 0))
 | .boxL n x => lpFree σ.lp d = true ∧ boxLW n σ d K (σ.x x)
 | .boxS n x => boxSW n σ d K (xg true σ x)
 | .buildSl sz n zero parts => buildSlW sz n σ d K (fill (xg true σ) zero parts)
 | .store n p v => storeW n σ p v d K (σ.x v)
 | .append sz bytes x y => appendW sz bytes σ x d K (σ.x x) (σ.x y)
 | .cvtStr x => cvtStrW σ d K (xg true σ x)
 | .cvtBytes x => cvtBytesW σ d K (xg true σ x)
 | .makeSl _ bytes zero l c => makeSlW bytes zero σ d K (xg true σ l) (xg true σ c)
 | .makeOw sz bytes c => makeOwW sz bytes σ d K (xg true σ c)
 | .makeMap => ∀ b, σ.s b = none → K ({ σ with s := σ.s.set b (.map []) }.put d (.mp b))
 | .call f args => callW P f σ d K (argsV (xg true σ) args)
 | .callv x args => callvW P σ (argsV (xg true σ) args) d K (xg true σ x)
 | .lookup kk zero ok x k => prK σ d K (lookupV kk zero ok σ.s (xg true σ k) (xg true σ x))
 | .cvtRow x => prK σ d K (rowV (xg true σ x))
 | .movT x => prK σ d K (tupV (xg true σ x))
 | .mapUpdate kk x k v => mapUpdW kk σ (xg true σ k) (xg true σ v) d K (xg true σ x)
 | .buildSlA sz n zero parts => buildSlAW sz n σ d K (fill (xg true σ) zero parts)
 | .appendA sz bytes zero x y => appendAW sz bytes zero σ d K (σ.x x) (srcV σ.s sz (σ.x y))
 | .appendZ sz bytes zero x y => appendZW sz bytes zero σ d K (σ.x x) (xg true σ y)
 | .copyA sz x y => copyAW sz σ d K (σ.x x) (srcV σ.s sz (σ.x y))
 | .clearA zero x => clearAW zero σ d K (σ.x x)
 | .frz sz own x => frzW sz own σ d K (σ.x x)
 | .loadF sz own x => loadFW sz own σ d K (rd σ (xg true σ x) 1)
 | .loadD x => loadDW σ d K (σ.x x)
 | .loadE off j x => isLpAt j off (σ.x x) = true ∧ loadDW σ d K (σ.x x)
 | .eqN ne x => eqNW ne σ d K (σ.x x)
 | .ovl f x y => ovlW P f σ d K (σ.x x) (σ.x y)
 | .storeN sz n p v => storeNW sz n σ p v d K (σ.x v)
 | .boxN sz n x => boxNW sz n σ d K (σ.x x)
 | .boxT n t j u x => boxTW n t j u σ d K (σ.x x)
 | .appendB t x y => appendBW t σ x d K (σ.x x) (σ.x y)
 | .cvtU x => cvtUW σ d K (σ.x x)
 | .callX f x => callXW P f σ d K (σ.x x)
 | .cvtF u x => cvtFW P u σ d K (σ.x x)
 | .callU f i args => thawW i σ (fun τ => callW P f τ d K (argsV (xg true τ) args)) (look σ.e i)
 | _ => False
def lpReg (σ : St) : AV → Option Nat → St
 | .lp t _, some i => { σ with lp := (i, t) :: σ.lp }
 | .when _ a, d => lpReg σ a d
 | _, _ => σ
def nxt (o : IOp) (σ : St) (d : Option Nat) (K : St → Prop) : PR → Prop
 | .tot a => K ((lpReg σ a d).put d a)
 | .prt c a => c ∧ K ((lpReg σ a d).put d a)
 | .no => iwp P o d σ K
def owp (o : IOp) (d : Option Nat) (σ : St) (K : St → Prop) : Prop := nxt P o σ d K (pv o (xg true σ) σ)
def nxg (g : Bool) (o : IOp) (σ : St) (d : Option Nat) (K : St → Prop) : PR → Prop
 | .tot a => K ((lpReg σ a d).put d (.when g a))
 | .prt c a => (g = true → c) ∧ K ((lpReg σ a d).put d (.when g a))
 | .no => (g = true → owp P o d σ K) ∧ (g = false → K (σ.put d (.tup [])))
def gsel (o : IOp) (d : Option Nat) (t : Nat) (want : Bool) (σ : St) (K : St → Prop) : AV → Prop
 | .bool b => nxg P (b == want) o σ d K (pv o (xg (b == want) σ) σ)
 | .when b' (.bool b) => nxg P (b' && (b == want)) o σ d K (pv o (xg (b' && (b == want)) σ) σ)
 | .tup [] => K (σ.put d (.tup []))
 | _ => False
def gwp (o : IOper) (σ : St) (K : St → Prop) : Prop :=
 match o.g with
 | none => owp P o.op o.dst σ K
 | some (t, want) => gsel P o.op o.dst t want σ K (look σ.e t)
def swp : List IOper → St → (St → Prop) → Prop
 | [], σ, K => K σ
 | o :: r, σ, K => gwp P o σ (fun τ => swp r τ K)
def swpK (r : List IOper) (K : St → Prop) (τ : St) : Prop := swp P r τ K
def notLoc : AV → Bool
 | .loc _ => false
 | _ => true
def wPR (g : Bool) : PR → PR
 | .tot a => .tot (.when g a)
 | .prt c a => .prt (g = true → c) (.when g a)
 | .no => .no
def rdO : IOp → Bool
 | .loadR _ _ _ => true
 | _ => false
def wPQ (r g : Bool) : PR → PR
 | .tot a => .tot (.when g a)
 | .prt c a => .prt (g = true → c) (.when g a)
 | .no => bif r then .prt (g = false) (.when g .undef) else .no
def qvG (o : IOp) (want : Bool) (σ : St) : AV → PR
 | .bool b => wPQ (rdO o) (b == want) (pv o (xg (b == want) σ) σ)
 | .when g (.bool b) => wPQ (rdO o) (g && (b == want)) (pv o (xg (g && (b == want)) σ) σ)
 | _ => .no
def qv (o : IOper) (σ : St) : PR := match o.g with
 | none => pv o.op (xg true σ) σ
 | some (t, want) => qvG o.op want σ (look σ.e t)
def qK (σ : St) (d : Option Nat) (K : St → Prop) : PR → Prop
 | .tot a => notLoc a = true ∧ K ((lpReg σ a d).put d a)
 | .prt c a => c ∧ notLoc a = true ∧ K ((lpReg σ a d).put d a)
 | .no => False
def qCall (f : Nat) (σ : St) (d : Option Nat) (K : St → Prop) : Option (List AV) → Prop
 | some as => ∃ rs, rsOK rs = true ∧ FE P f as σ.s rs σ.s ∧ K (σ.put d (retV rs))
 | none => False
def qCallvA (f : Nat) (first caps : List AV) (σ : St) (d : Option Nat) (K : St → Prop) : Option (List AV) → Prop
 | some as => fnOK P f = true ∧ ∃ rs, rsOK rs = true ∧ FE P f (first ++ as ++ caps) σ.s rs σ.s ∧ K (σ.put d (retV rs))
 | none => False
def qCallv (σ : St) (args : Option (List AV)) (d : Option Nat) (K : St → Prop) : AV → Prop
 | .fn f first caps => qCallvA P f first caps σ d K args
 | _ => False
def callee (x : IX) (args : List IX) (g : Bool) (σ : St) (f : Nat) (as : List AV) : Prop := ∃ first caps xs, xg g σ x = .fn f first caps ∧ argsV (xg g σ) args = some xs ∧ as = first ++ xs ++ caps
def qCallvG (x : IX) (args : List IX) (want : Bool) (σ : St) (d : Option Nat) (K : St → Prop) : AV → Prop
 | .bool b => ∃ rs, rsOK rs = true ∧ ((b == want) = true → ∃ f as, callee x args (b == want) σ f as ∧ fnOK P f = true ∧ FE P f as σ.s rs σ.s) ∧ K (σ.put d (.when (b == want) (retV rs)))
 | .when g (.bool b) => ∃ rs, rsOK rs = true ∧ ((g && (b == want)) = true → ∃ f as, callee x args (g && (b == want)) σ f as ∧ fnOK P f = true ∧ FE P f as σ.s rs σ.s) ∧ K (σ.put d (.when (g && (b == want)) (retV rs)))
 | _ => False
def qCallG (f : Nat) (args : List IX) (want : Bool) (σ : St) (d : Option Nat) (K : St → Prop) : AV → Prop
 | .bool b => ∃ rs, rsOK rs = true ∧ ((b == want) = true → ∃ as, argsV (xg (b == want) σ) args = some as ∧ FE P f as σ.s rs σ.s) ∧ K (σ.put d (.when (b == want) (retV rs)))
 | .when g (.bool b) => ∃ rs, rsOK rs = true ∧ ((g && (b == want)) = true → ∃ as, argsV (xg (g && (b == want)) σ) args = some as ∧ FE P f as σ.s rs σ.s) ∧ K (σ.put d (.when (g && (b == want)) (retV rs)))
 | _ => False
def qStr (σ : St) (d : Option Nat) (K : St → Prop) : AV → Prop
 | .sl _ sz _ cs => sz = 1 ∧ ∃ s : List UInt8, cs = (s.map fun c => .int .u8 c.toNat) ∧ K (σ.put d (.str s))
 | _ => False
def bytesPR : AV → PR
 | .str s => .tot (.sl (nonE s) 1 s.length (s.map fun c => .int .u8 c.toNat))
 | _ => .no
def rowPR (sz n : Nat) : Option (List AV) → PR
 | some cs => .prt (cs.length = n * sz) (.sl true sz n cs)
 | none => .no
def qe (f : IX → AV) (s : Store) : IOp → PR
 | .cvtBytes x => bytesPR (f x)
 | .buildSl sz n zero parts => rowPR sz n (fill f zero parts)
 | .lookup kk zero ok x k => lookupV kk zero ok s (f k) (f x)
 | .cvtRow x => rowV (f x)
 | .movT x => tupV (f x)
 | _ => .no
def qeG (o : IOp) (want : Bool) (σ : St) : AV → PR
 | .bool b => wPR (b == want) (qe (xg (b == want) σ) σ.s o)
 | .when g (.bool b) => wPR (g && (b == want)) (qe (xg (g && (b == want)) σ) σ.s o)
 | _ => .no
def qeO (o : IOper) (σ : St) : PR := match o.g with
 | none => qe (xg true σ) σ.s o.op
 | some (t, want) => qeG o.op want σ (look σ.e t)
def q1 (o : IOper) (σ : St) (K : St → Prop) : Prop :=
 match o with
 | ⟨d, .call f args, none⟩ => qCall P f σ d K (argsV (xg true σ) args)
 | ⟨d, .mov true x, none⟩ => movW σ x d K (σ.x x)
 | ⟨d, .call f args, some (t, want)⟩ => qCallG P f args want σ d K (look σ.e t)
 | ⟨d, .callv x args, none⟩ => qCallv P σ (argsV (xg true σ) args) d K (xg true σ x)
 | ⟨d, .callv x args, some (t, want)⟩ => qCallvG P x args want σ d K (look σ.e t)
 | ⟨d, .cvtBytes x, g⟩ => qK σ d K (qeO ⟨d, .cvtBytes x, g⟩ σ)
 | ⟨d, .buildSl sz n zero parts, g⟩ => qK σ d K (qeO ⟨d, .buildSl sz n zero parts, g⟩ σ)
 | ⟨d, .lookup kk zero ok x k, g⟩ => qK σ d K (qeO ⟨d, .lookup kk zero ok x k, g⟩ σ)
 | ⟨d, .cvtRow x, g⟩ => qK σ d K (qeO ⟨d, .cvtRow x, g⟩ σ)
 | ⟨d, .movT x, g⟩ => qK σ d K (qeO ⟨d, .movT x, g⟩ σ)
 | o => qK σ o.dst K (qv o σ)
def slotFree (σ : St) : Option Nat → Bool
 | some d => notLoc (look σ.e d)
 | none => true
def qwp : Nat → List IOper → St → (St → Prop) → Prop
 | 0, l, σ, K => swp P l σ K
 | _ + 1, [], σ, K => K σ
 | q + 1, o :: r, σ, K => slotFree σ o.dst = true ∧ q1 P o σ (fun τ => qwp q r τ K)
def qwpK (q : Nat) (r : List IOper) (K : St → Prop) (τ : St) : Prop := qwp P q r τ K
def lpNot (c : Nat) : AV → Bool
 | .lp t _ => !Nat.beq t c
 | .when _ v => lpNot c v
 | _ => true
def lpNots : List Nat → AV → Bool
 | [], _ => true
 | c :: T, a => lpNot c a && lpNots T a
def noLpB (T : List Nat) : List (Nat × AV) → Bool
 | [] => true
 | p :: e => lpNots T p.2 && noLpB T e
def qStoW (n : Nat) (σ : St) (c : Nat) (x : IX) (K : St → Prop) : AV → Prop
 | .loc old => old.length = n ∧ isV (σ.x x) = true ∧ (stCells (σ.x x)).length = n ∧ K ((σ.drain x).put (some c) (.loc (stCells (σ.x x))))
 | _ => False
def q2 (o : IOper) (σ : St) (K : St → Prop) : Prop :=
 match o with
 | ⟨none, .store n (.t c) x, none⟩ => qStoW n σ c x K (look σ.e c)
 | ⟨some d, .allocL z, none⟩ => notLoc (look σ.e d) = true ∧ lpFree σ.lp (some d) = true ∧ K (σ.put (some d) (.loc z))
 | ⟨some d, .append sz bytes x y, none⟩ => notLoc (look σ.e d) = true ∧ appendW sz bytes σ x (some d) K (σ.x x) (σ.x y)
 | ⟨some d, .loadE off (.t i) x, none⟩ => notLoc (look σ.e d) = true ∧ isLpAt (.t i) off (σ.x x) = true ∧ loadDW σ (some d) K (σ.x x)
 | ⟨_, .store _ _ _, _⟩ => False
 | ⟨_, .allocL _, _⟩ => False
 | ⟨_, .append _ _ _ _, _⟩ => False
 | ⟨_, .loadE _ _ _, _⟩ => False
 | o => slotFree σ o.dst = true ∧ q1 P o σ K
def qwpT (T : List Nat) : Nat → List IOper → St → (St → Prop) → Prop
 | 0, l, σ, K => swp P l σ K
 | _ + 1, [], σ, K => K σ
 | q + 1, o :: r, σ, K => q2 P o σ (fun τ => noLpB T τ.e = true ∧ qwpT T q r τ K)
def qwpTK (T : List Nat) (q : Nat) (r : List IOper) (K : St → Prop) (τ : St) : Prop := noLpB T τ.e = true ∧ qwpT P T q r τ K
def noRef : AV → Bool
 | .ref _ _ => false
 | .when _ a => noRef a
 | _ => true
def sfree (o : IOper) (σ : St) : Bool := match o.op with
 | .load _ _ x => noRef (σ.x x)
 | .loadR _ _ _ => false
 | .loadI _ _ => false
 | .lookup _ _ _ _ _ => false
 | .call _ _ => false
 | .callv _ _ => false
 | .len c _ => !Nat.beq c 2
 | _ => true
def brCall (f : Nat) (s : Store) (C : AV → Store → Prop) : Option (List AV) → Prop
 | some args => FN P f args s (fun rs s' => rsOK rs = true ∧ C (retV rs) s')
 | none => False
def brCallvA (f : Nat) (first caps : List AV) (s : Store) (C : AV → Store → Prop) : Option (List AV) → Prop
 | some args => fnOK P f = true ∧ FN P f (first ++ args ++ caps) s (fun rs s' => rsOK rs = true ∧ C (retV rs) s')
 | none => False
def brCallv (args : Option (List AV)) (s : Store) (C : AV → Store → Prop) : AV → Prop
 | .fn f first caps => brCallvA P f first caps s C args
 | _ => False
def brMake (bytes : Nat) (zero : List AV) (s : Store) (C : AV → Store → Prop) : AV → AV → Prop
 | .int _ l, .int _ c => 0 ≤ l ∧ l ≤ c ∧ c * bytes ≤ room ∧ ∀ b, s b = none → C (.arr b 0 l.toNat c.toNat) (s.set b (.cells ((List.replicate c.toNat zero).flatten)))
 | _, _ => False
def brBox (n : Nat) (s : Store) (C : AV → Store → Prop) (a : AV) : Prop :=
 isV a = true ∧ (cellsOf a).length = n ∧ ∀ b, s b = none → C (.ref b 0) (s.set b (.cells (views (cellsOf a))))
def brSto (b off : Nat) (news : List AV) (s : Store) (C : AV → Store → Prop) : Option SO → Prop
 | some (.cells old) => off + news.length ≤ old.length ∧ C (.tup []) (s.set b (.cells (setAt old off news)))
 | _ => False
def noOwn : AV → Bool
 | .sl true _ _ _ => false
 | .bb _ _ _ => false
 | _ => true
def brStore (n : Nat) (s : Store) (C : AV → Store → Prop) (v : AV) : AV → Prop
 | .ref b off => isV v = true ∧ noOwn v = true ∧ (stCells v).length = n ∧ brSto b off (stCells v) s C (s b)
 | _ => False
def brUpdO (kk : KeyK) (b : Nat) (s : Store) (k v : AV) (C : AV → Store → Prop) : Option SO → Prop
 | some (.map es) => (isV v = true ∧ keyOK kk k = true ∧ keysOK kk es = true) ∧ C (.tup []) (s.set b (.map (putK (view k) (view v) es)))
 | _ => False
def brUpd (kk : KeyK) (s : Store) (k v : AV) (C : AV → Store → Prop) : AV → Prop
 | .mp b => brUpdO kk b s k v C (s b)
 | _ => False
def brTakeO (b off : Nat) (s : Store) (C : AV → Store → Prop) : Option SO → Prop
 | some (.cells cs) => takeC off cs fun cs' a => C a (s.set b (.cells cs'))
 | _ => False
def brTake (s : Store) (C : AV → Store → Prop) : AV → Prop
 | .ref b off => brTakeO b off s C (s b)
 | _ => False
def bres (o : IOp) (σ : St) (C : AV → Store → Prop) : Prop := match o with
 | .call f args => brCall P f σ.s C (argsV (xg true σ) args)
 | .callv x args => brCallv P (argsV (xg true σ) args) σ.s C (xg true σ x)
 | .makeSl _ bytes zero l c => brMake bytes zero σ.s C (xg true σ l) (xg true σ c)
 | .makeMap => ∀ b, σ.s b = none → C (.mp b) (σ.s.set b (.map []))
 | .allocS zero => ∀ b, σ.s b = none → C (.ref b 0) (σ.s.set b (.cells zero))
 | .boxS n x => brBox n σ.s C (xg true σ x)
 | .store n p v => brStore n σ.s C (σ.x v) (σ.x p)
 | .mapUpdate kk x k v => brUpd kk σ.s (xg true σ k) (xg true σ v) C (xg true σ x)
 | .loadD x => brTake σ.s C (σ.x x)
 | _ => False
def bbK (σ : St) (d : Option Nat) (K : St → Prop) (a : AV) (s' : Store) : Prop := K ({ σ with s := s' }.put d a)
def bbw (o : IOper) (σ : St) (K : St → Prop) : Prop := match o.g with
 | none => slotFree σ o.dst = true ∧ bres P o.op σ (bbK σ o.dst K)
 | some _ => False
def bwp (T : List Nat) : List (Nat × Nat × IOper) → St → (St → Prop) → Prop
 | [], σ, K => K σ
 | (0, _, o) :: r, σ, K => q2 P o σ (fun τ => noLpB T τ.e = true ∧ bwp T r τ K)
 | (1, _, o) :: r, σ, K => sfree o σ = true ∧ q2 P o σ (fun τ => noLpB T τ.e = true ∧ bwp T r τ K)
 | (2, _, o) :: r, σ, K => bbw P o σ (fun τ => noLpB T τ.e = true ∧ bwp T r τ K)
 | (_ + 3, _, o) :: r, σ, K => gwp P o σ (fun τ => noLpB T τ.e = true ∧ bwp T r τ K)
def bwpK (T : List Nat) (r : List (Nat × Nat × IOper)) (K : St → Prop) (τ : St) : Prop := noLpB T τ.e = true ∧ bwp P T r τ K
def xrdy : List Bool → List Bool → Bool
 | d :: r, x :: s => (!d || x) && xrdy r s
 | _, _ => true
def xrev : List Bool → List Bool → List Bool
 | [], s => s
 | x :: p, s => xrev p (x :: s)
def xalt (done : List Bool) : List (List Bool) → List Bool → List Bool → List IOper → (IOper → List Bool → Prop) → Prop
 | row :: rows, pre, x :: xs, o :: r, F => (bif !x && xrdy row done then F o (xrev pre (true :: xs)) else True) ∧ xalt done rows (x :: pre) xs r F
 | _, _, _, _, _ => True
def xfalse : List IOper → List Bool
 | [] => []
 | _ :: r => false :: xfalse r
def xwp (deps : List (List Bool)) (ops : List IOper) (K : St → Prop) : List IOper → List Bool → St → Prop
 | [], _, σ => K σ
 | _ :: f, done, σ => xalt done deps [] done ops (fun o d => gwp P o σ (fun τ => xwp deps ops K f d τ))
def xwpK (deps : List (List Bool)) (ops : List IOper) (K : St → Prop) (f : List IOper) (done : List Bool) (τ : St) : Prop := xwp P deps ops K f done τ
def regK (live : List Nat) (Q : Exit → St → Prop) (τ : St) : Prop := Q .normal (τ.keep live)
def blkK (id : Nat) (Q : Exit → St → Prop) : Exit → St → Prop
 | .exit i, τ => bif i == id then Q .normal τ else Q (.exit i) τ
 | x, τ => Q x τ
def loopK (live : List (Nat × Bool)) (I : St → Prop) (μ : St → Nat) (m : Nat) (Q : Exit → St → Prop) : Exit → St → Prop
 | .normal, ρ => I (ρ.keepV live) ∧ μ (ρ.keepV live) < m
 | x, ρ => Q x ρ
def joinK (live : List (Nat × Bool)) (J : St → Prop) (Q : Exit → St → Prop) : Exit → St → Prop
 | .normal, ρ => J (ρ.keepV live)
 | x, ρ => Q x ρ
def scJK (live : List (Nat × Bool)) (I : St → Prop) (Q : Exit → St → Prop) : Exit → St → Prop
 | .normal, ρ => I (ρ.keepV live)
 | .goto _, _ => False
 | x, ρ => Q x ρ
def jmpK (l : Nat) (live : List (Nat × Bool)) (I : St → Prop) (Q : Exit → St → Prop) : Exit → St → Prop
 | .goto l', ρ => l' = l ∧ I (ρ.keepV live)
 | x, ρ => Q x ρ
def cwp : IC → (Exit → St → Prop) → St → Prop
 | .skip, Q, σ => Q .normal σ
 | .reg q ops live, Q, σ => match q with
  | none => swp P ops σ (regK live Q)
  | some q => qwp P q ops σ (regK live Q)
 | .regT T q ops live, Q, σ => noLpB T σ.e = true ∧ qwpT P T q ops σ (regK live Q)
 | .regB T l live, Q, σ => noLpB T σ.e = true ∧ bwp P T l σ (regK live Q)
 | .regX deps ops live, Q, σ => xwp P deps ops (regK live Q) ops (xfalse ops) σ
 | .seq a b, Q, σ => cwp a (fun x τ => match x with | .normal => cwp b Q τ | x => Q x τ) σ
 | .cond c a b, Q, σ => match σ.x c with
  | .bool v => (v = true → cwp a Q σ) ∧ (v = false → cwp b Q σ)
  | _ => False
 | .block id b, Q, σ => cwp b (blkK id Q) σ
 | .loop live b, Q, σ => ∃ (I : St → Prop) (μ : St → Nat), I (σ.keepV live) ∧ ∀ τ, I τ → cwp b (loopK live I μ (μ τ) Q) τ
 | .join live a b, Q, σ => ∃ J : St → Prop, cwp a (joinK live J Q) σ ∧ ∀ τ, J τ → cwp b Q τ
 | .exit id, Q, σ => Q (.exit id) σ
 | .scope b, Q, σ => cwp b (fun x τ => match x with | .goto _ => False | x => Q x τ) σ
 | .scopeJ l live a1 a2 a3 r, Q, σ =>
  let K := scJK live (fun ρ => ∃ (I : St → Prop) (μ : St → Nat), I ρ ∧ ∀ τ, I τ → cwp r (jmpK l live (fun ρ' => I ρ' ∧ μ ρ' < μ τ) Q) τ) Q
  cwp a1 (fun x τ => match x with | .normal => cwp a2 (fun x τ => match x with | .normal => cwp a3 K τ | x => K x τ) τ | x => K x τ) σ
 | .label _, Q, σ => Q .normal σ
 | .goto l, Q, σ => Q (.goto l) σ
 | .ret, Q, σ => Q .ret σ
 | .dead, _, _ => False
def jlp (l : Nat) (live : List (Nat × Bool)) (r : IC) (Q : Exit → St → Prop) (ρ : St) : Prop := ∃ (I : St → Prop) (μ : St → Nat), I ρ ∧ ∀ τ, I τ → cwp P r (jmpK l live (fun ρ' => I ρ' ∧ μ ρ' < μ τ) Q) τ
def seqK (b : IC) (Q : Exit → St → Prop) : Exit → St → Prop
 | .normal, τ => cwp P b Q τ
 | x, τ => Q x τ
def scopeK (Q : Exit → St → Prop) : Exit → St → Prop
 | .goto _, _ => False
 | x, τ => Q x τ
def condW (a b : IC) (Q : Exit → St → Prop) (σ : St) : AV → Prop
 | .bool v => (v = true → cwp P a Q σ) ∧ (v = false → cwp P b Q σ)
 | _ => False
end
end Go.AB
end

section
namespace Go.AB
open Go
section
variable (P : Program) (K : St → Prop) (Q : Exit → St → Prop) (σ τ : St) (d : Option Nat)
@[go_sem] theorem swp_nil : swp P [] σ K = K σ := rfl
@[go_sem] theorem swp_cons (o : IOper) (r : List IOper) : swp P (o :: r) σ K = gwp P o σ (swpK P r K) := rfl
@[go_sem] theorem swpK_app (r : List IOper) : swpK P r K τ = swp P r τ K := rfl
@[go_sem] theorem qwpK_app (q : Nat) (r : List IOper) : qwpK P q r K τ = qwp P q r τ K := rfl
@[go_sem] theorem regK_app (live : List Nat) : regK live Q τ = Q .normal (τ.keep live) := rfl
@[go_sem] theorem gwp_none (op : IOp) : gwp P ⟨d, op, none⟩ σ K = nxt P op σ d K (pv op (xg true σ) σ) := rfl
@[go_sem] theorem owp_eq (op : IOp) : owp P op d σ K = nxt P op σ d K (pv op (xg true σ) σ) := rfl
@[go_sem] theorem gwp_some (op : IOp) (t : Nat) (want : Bool) : gwp P ⟨d, op, some (t, want)⟩ σ K = gsel P op d t want σ K (look σ.e t) := rfl
@[go_sem] theorem cwp_dead (Q : Exit → St → Prop) : cwp P .dead Q σ = False := rfl
@[go_sem] theorem cwp_skip : cwp P .skip Q σ = Q .normal σ := rfl
@[go_sem] theorem cwp_reg (ops : List IOper) (live : List Nat) : cwp P (.reg none ops live) Q σ = swp P ops σ (regK live Q) := rfl
@[go_sem] theorem cwp_regq (q : Nat) (ops : List IOper) (live : List Nat) : cwp P (.reg (some q) ops live) Q σ = qwp P q ops σ (regK live Q) := rfl
@[go_sem] theorem cwp_regB (T : List Nat) (l : List (Nat × Nat × IOper)) (live : List Nat) : cwp P (.regB T l live) Q σ = (noLpB T σ.e = true ∧ bwp P T l σ (regK live Q)) := rfl
@[go_sem] theorem cwp_regT (T : List Nat) (q : Nat) (ops : List IOper) (live : List Nat) : cwp P (.regT T q ops live) Q σ = (noLpB T σ.e = true ∧ qwpT P T q ops σ (regK live Q)) := rfl
@[go_sem] theorem cwp_seq (a b : IC) : cwp P (.seq a b) Q σ = cwp P a (seqK P b Q) σ := by
 have : (fun x τ => match x with | .normal => cwp P b Q τ | x => Q x τ) = seqK P b Q := by funext x τ; cases x <;> rfl
 rw [← this]; rfl
@[go_sem] theorem cwp_cond (x : IX) (a b : IC) : cwp P (.cond x a b) Q σ = condW P a b Q σ (σ.x x) := by
 show (match σ.x x with | .bool v => (v = true → cwp P a Q σ) ∧ (v = false → cwp P b Q σ) | _ => False) = _
 cases σ.x x <;> rfl
@[go_sem] theorem cwp_block (i : Nat) (b : IC) : cwp P (.block i b) Q σ = cwp P b (blkK i Q) σ := rfl
@[go_sem] theorem cwp_exit (i : Nat) : cwp P (.exit i) Q σ = Q (.exit i) σ := rfl
@[go_sem] theorem cwp_goto (i : Nat) : cwp P (.goto i) Q σ = Q (.goto i) σ := rfl
@[go_sem] theorem cwp_ret : cwp P .ret Q σ = Q .ret σ := rfl
@[go_sem] theorem condW_bool (a b : IC) (v : Bool) : condW P a b Q σ (.bool v) = ((v = true → cwp P a Q σ) ∧ (v = false → cwp P b Q σ)) := rfl
@[go_sem] theorem seqK_normal (b : IC) : seqK P b Q .normal τ = cwp P b Q τ := rfl
@[go_sem] theorem seqK_ret (b : IC) : seqK P b Q .ret τ = Q .ret τ := rfl
@[go_sem] theorem seqK_exit (b : IC) (i : Nat) : seqK P b Q (.exit i) τ = Q (.exit i) τ := rfl
@[go_sem] theorem seqK_goto (b : IC) (i : Nat) : seqK P b Q (.goto i) τ = Q (.goto i) τ := rfl
@[go_sem] theorem blkK_normal (i : Nat) : blkK i Q .normal τ = Q .normal τ := rfl
@[go_sem] theorem blkK_ret (i : Nat) : blkK i Q .ret τ = Q .ret τ := rfl
@[go_sem] theorem blkK_goto (i l : Nat) : blkK i Q (.goto l) τ = Q (.goto l) τ := rfl
@[go_sem] theorem blkK_exit (i j : Nat) : blkK i Q (.exit j) τ = bif j == i then Q .normal τ else Q (.exit j) τ := rfl
@[go_sem] theorem joinK_normal (live : List (Nat × Bool)) (J : St → Prop) : joinK live J Q .normal τ = J (τ.keepV live) := rfl
@[go_sem] theorem joinK_ret (live : List (Nat × Bool)) (J : St → Prop) : joinK live J Q .ret τ = Q .ret τ := rfl
@[go_sem] theorem joinK_exit (live : List (Nat × Bool)) (J : St → Prop) (i : Nat) : joinK live J Q (.exit i) τ = Q (.exit i) τ := rfl
@[go_sem] theorem joinK_goto (live : List (Nat × Bool)) (J : St → Prop) (i : Nat) : joinK live J Q (.goto i) τ = Q (.goto i) τ := rfl
@[go_sem] theorem cwp_regX (deps : List (List Bool)) (ops : List IOper) (live : List Nat) : cwp P (.regX deps ops live) Q σ = xwp P deps ops (regK live Q) ops (xfalse ops) σ := rfl
@[go_sem] theorem xwp_cons (deps : List (List Bool)) (ops : List IOper) (K : St → Prop) (d : List Bool) (o : IOper) (f : List IOper) : xwp P deps ops K (o :: f) d σ = xalt d deps [] d ops (fun o d => gwp P o σ (xwpK P deps ops K f d)) := rfl
@[go_sem] theorem xwpK_eq (deps : List (List Bool)) (ops : List IOper) (K : St → Prop) (f : List IOper) (d : List Bool) (τ : St) : xwpK P deps ops K f d τ = xwp P deps ops K f d τ := rfl
attribute [go_sem] xrdy xrev xfalse
@[go_sem] theorem xalt_cons (done row pre xs : List Bool) (rows : List (List Bool)) (x : Bool) (o : IOper) (r : List IOper) (F : IOper → List Bool → Prop) : xalt done (row :: rows) pre (x :: xs) (o :: r) F = ((bif !x && xrdy row done then F o (xrev pre (true :: xs)) else True) ∧ xalt done rows (x :: pre) xs r F) := rfl
@[go_sem] theorem xalt_nil (done pre : List Bool) (F : IOper → List Bool → Prop) : xalt done [] pre [] [] F = True := rfl
@[go_sem] theorem cwp_scopeJ (l : Nat) (live : List (Nat × Bool)) (a1 a2 a3 r : IC) : cwp P (.scopeJ l live a1 a2 a3 r) Q σ = cwp P a1 (seqK P a2 (seqK P a3 (scJK live (jlp P l live r Q) Q))) σ := by
 show cwp P a1 (fun x τ => match x with | .normal => cwp P a2 (fun x τ => match x with | .normal => cwp P a3 (scJK live (jlp P l live r Q) Q) τ | x => scJK live (jlp P l live r Q) Q x τ) τ | x => scJK live (jlp P l live r Q) Q x τ) σ = _
 congr 1
 funext x τ
 cases x with
 | normal =>
  show cwp P a2 _ τ = cwp P a2 _ τ
  congr 1
  funext x τ
  cases x <;> rfl
 | _ => rfl
@[go_sem] theorem scJK_normal (live : List (Nat × Bool)) (I : St → Prop) : scJK live I Q .normal τ = I (τ.keepV live) := rfl
@[go_sem] theorem jmpK_ret (l : Nat) (live : List (Nat × Bool)) (I : St → Prop) : jmpK l live I Q .ret τ = Q .ret τ := rfl
@[go_sem] theorem jmpK_goto (l : Nat) (live : List (Nat × Bool)) (I : St → Prop) : jmpK l live I Q (.goto l) τ = I (τ.keepV live) := by
 show (l = l ∧ I (τ.keepV live)) = _
 simp
end
section
@[go_sem] theorem isV_bool (b : Bool) : isV (.bool b) = true := rfl
@[go_sem] theorem unw_bool (g : Bool) (b : Bool) : unw g (.bool b) = (.bool b) := rfl
@[go_sem] theorem view_bool (b : Bool) : view (.bool b) = (.bool b) := rfl
@[go_sem] theorem cellsOf_bool (b : Bool) : cellsOf (.bool b) = [(.bool b)] := rfl
@[go_sem] theorem lpReg_bool (σ : St) (i : Nat) (b : Bool) : lpReg σ (.bool b) (some i) = σ := rfl
@[go_sem] theorem isV_int (k : IntKind) (n : Int) : isV (.int k n) = true := rfl
@[go_sem] theorem unw_int (g : Bool) (k : IntKind) (n : Int) : unw g (.int k n) = (.int k n) := rfl
@[go_sem] theorem view_int (k : IntKind) (n : Int) : view (.int k n) = (.int k n) := rfl
@[go_sem] theorem cellsOf_int (k : IntKind) (n : Int) : cellsOf (.int k n) = [(.int k n)] := rfl
@[go_sem] theorem stCells_int (k : IntKind) (n : Int) : stCells (.int k n) = [(.int k n)] := rfl
@[go_sem] theorem lpReg_int (σ : St) (i : Nat) (k : IntKind) (n : Int) : lpReg σ (.int k n) (some i) = σ := rfl
@[go_sem] theorem isV_str (s : List UInt8) : isV (.str s) = true := rfl
@[go_sem] theorem unw_str (g : Bool) (s : List UInt8) : unw g (.str s) = (.str s) := rfl
@[go_sem] theorem view_str (s : List UInt8) : view (.str s) = (.str s) := rfl
@[go_sem] theorem cellsOf_str (s : List UInt8) : cellsOf (.str s) = [(.str s)] := rfl
@[go_sem] theorem lpReg_str (σ : St) (i : Nat) (s : List UInt8) : lpReg σ (.str s) (some i) = σ := rfl
@[go_sem] theorem isV_bb (t n : Nat) (cs : List AV) : isV (.bb t n cs) = true := rfl
@[go_sem] theorem view_bb (t n : Nat) (cs : List AV) : view (.bb t n cs) = .sl false 1 n cs := rfl
@[go_sem] theorem stCells_bb (t n : Nat) (cs : List AV) : stCells (.bb t n cs) = [.bb t n cs] := rfl
@[go_sem] theorem isV_nili  : isV (.nili) = true := rfl
@[go_sem] theorem unw_nili (g : Bool)  : unw g (.nili) = (.nili) := rfl
@[go_sem] theorem view_nili  : view (.nili) = (.nili) := rfl
@[go_sem] theorem lpReg_nili (σ : St) (i : Nat)  : lpReg σ (.nili) (some i) = σ := rfl
@[go_sem] theorem dropLp_nili  : dropLp (.nili ) = .nili  := rfl
@[go_sem] theorem view_btag (t : Nat) : view (.btag t) = .nilp := rfl
@[go_sem] theorem isV_nilp  : isV (.nilp) = true := rfl
@[go_sem] theorem unw_nilp (g : Bool)  : unw g (.nilp) = (.nilp) := rfl
@[go_sem] theorem view_nilp  : view (.nilp) = (.nilp) := rfl
@[go_sem] theorem lpReg_nilp (σ : St) (i : Nat)  : lpReg σ (.nilp) (some i) = σ := rfl
@[go_sem] theorem isV_ref (b o : Nat) : isV (.ref b o) = true := rfl
@[go_sem] theorem unw_ref (g : Bool) (b o : Nat) : unw g (.ref b o) = (.ref b o) := rfl
@[go_sem] theorem view_ref (b o : Nat) : view (.ref b o) = (.ref b o) := rfl
@[go_sem] theorem cellsOf_ref (b o : Nat) : cellsOf (.ref b o) = [(.ref b o)] := rfl
@[go_sem] theorem stCells_ref (b o : Nat) : stCells (.ref b o) = [(.ref b o)] := rfl
@[go_sem] theorem lpReg_ref (σ : St) (i : Nat) (b o : Nat) : lpReg σ (.ref b o) (some i) = σ := rfl
@[go_sem] theorem unw_lp (g : Bool) (b o : Nat) : unw g (.lp b o) = (.lp b o) := rfl
@[go_sem] theorem lpRegB_lp (σ : St) (i : Nat) (b o : Nat) : lpReg σ (.lp b o) (some i) = { σ with lp := (i, b) :: σ.lp } := rfl
@[go_sem] theorem unw_sp (g : Bool) (cs : List AV) : unw g (.sp cs) = (.sp cs) := rfl
@[go_sem] theorem lpReg_sp (σ : St) (i : Nat) (cs : List AV) : lpReg σ (.sp cs) (some i) = σ := rfl
@[go_sem] theorem unw_loc (g : Bool) (cs : List AV) : unw g (.loc cs) = (.loc cs) := rfl
@[go_sem] theorem view_loc (cs : List AV) : view (.loc cs) = (.loc cs) := rfl
@[go_sem] theorem isV_sl (o : Bool) (z n : Nat) (cs : List AV) : isV (.sl o z n cs) = true := rfl
@[go_sem] theorem unw_sl (g : Bool) (o : Bool) (z n : Nat) (cs : List AV) : unw g (.sl o z n cs) = (.sl o z n cs) := rfl
@[go_sem] theorem view_sl (o : Bool) (z n : Nat) (cs : List AV) : view (.sl o z n cs) = (.sl false z n cs) := rfl
@[go_sem] theorem cellsOf_sl (o : Bool) (z n : Nat) (cs : List AV) : cellsOf (.sl o z n cs) = [(.sl o z n cs)] := rfl
@[go_sem] theorem stCells_sl (o : Bool) (z n : Nat) (cs : List AV) : stCells (.sl o z n cs) = [(.sl o z n cs)] := rfl
@[go_sem] theorem lpReg_sl (σ : St) (i : Nat) (o : Bool) (z n : Nat) (cs : List AV) : lpReg σ (.sl o z n cs) (some i) = σ := rfl
@[go_sem] theorem isV_arr (b o l c : Nat) : isV (.arr b o l c) = true := rfl
@[go_sem] theorem unw_arr (g : Bool) (b o l c : Nat) : unw g (.arr b o l c) = (.arr b o l c) := rfl
@[go_sem] theorem view_arr (b o l c : Nat) : view (.arr b o l c) = (.arr b o l c) := rfl
@[go_sem] theorem stCells_arr (b o l c : Nat) : stCells (.arr b o l c) = [(.arr b o l c)] := rfl
@[go_sem] theorem lpReg_arr (σ : St) (i : Nat) (b o l c : Nat) : lpReg σ (.arr b o l c) (some i) = σ := rfl
@[go_sem] theorem isV_agg (cs : List AV) : isV (.agg cs) = true := rfl
@[go_sem] theorem unw_agg (g : Bool) (cs : List AV) : unw g (.agg cs) = (.agg cs) := rfl
@[go_sem] theorem view_agg (cs : List AV) : view (.agg cs) = (.agg cs) := rfl
@[go_sem] theorem cellsOf_agg (cs : List AV) : cellsOf (.agg cs) = cs := rfl
@[go_sem] theorem stCells_agg (cs : List AV) : stCells (.agg cs) = views cs := rfl
@[go_sem] theorem lpReg_agg (σ : St) (i : Nat) (cs : List AV) : lpReg σ (.agg cs) (some i) = σ := rfl
@[go_sem] theorem unw_tup (g : Bool) (cs : List AV) : unw g (.tup cs) = (.tup cs) := rfl
@[go_sem] theorem lpReg_tup (σ : St) (i : Nat) (cs : List AV) : lpReg σ (.tup cs) (some i) = σ := rfl
@[go_sem] theorem isV_fn (f : Nat) (x y : List AV) : isV (.fn f x y) = true := rfl
@[go_sem] theorem unw_fn (g : Bool) (f : Nat) (x y : List AV) : unw g (.fn f x y) = (.fn f x y) := rfl
@[go_sem] theorem view_fn (f : Nat) (x y : List AV) : view (.fn f x y) = (.fn f x y) := rfl
@[go_sem] theorem lpReg_fn (σ : St) (i : Nat) (f : Nat) (x y : List AV) : lpReg σ (.fn f x y) (some i) = σ := rfl
@[go_sem] theorem isV_nilf  : isV (.nilf) = true := rfl
@[go_sem] theorem unw_nilf (g : Bool)  : unw g (.nilf) = (.nilf) := rfl
@[go_sem] theorem view_nilf  : view (.nilf) = (.nilf) := rfl
@[go_sem] theorem lpReg_nilf (σ : St) (i : Nat)  : lpReg σ (.nilf) (some i) = σ := rfl
@[go_sem] theorem pvn_mov_true (f : IX → AV) (σ : St) (x : IX) : pv (.mov true x) f σ = .no := rfl
@[go_sem] theorem pvn_allocL (f : IX → AV) (σ : St) (z : List AV) : pv (.allocL z) f σ = .no := rfl
@[go_sem] theorem pvn_allocS (f : IX → AV) (σ : St) (z : List AV) : pv (.allocS z) f σ = .no := rfl
@[go_sem] theorem pvn_boxL (f : IX → AV) (σ : St) (n : Nat) (x : IX) : pv (.boxL n x) f σ = .no := rfl
@[go_sem] theorem pvn_boxS (f : IX → AV) (σ : St) (n : Nat) (x : IX) : pv (.boxS n x) f σ = .no := rfl
@[go_sem] theorem pvn_buildSl (f : IX → AV) (σ : St) (a b : Nat) (z : List AV) (p : List (Nat × Nat × IX)) : pv (.buildSl a b z p) f σ = .no := rfl
@[go_sem] theorem pvn_store (f : IX → AV) (σ : St) (n : Nat) (p v : IX) : pv (.store n p v) f σ = .no := rfl
@[go_sem] theorem pvn_append (f : IX → AV) (σ : St) (a b : Nat) (x y : IX) : pv (.append a b x y) f σ = .no := rfl
@[go_sem] theorem pv_cvtStr' (f : IX → AV) (σ : St) (x : IX) : pv (.cvtStr x) f σ = cvtStrV (f x) := rfl
attribute [go_sem] cvtStrV.eq_1 strPR.eq_1 consO.eq_1
@[go_sem] theorem pvn_cvtBytes (f : IX → AV) (σ : St) (x : IX) : pv (.cvtBytes x) f σ = .no := rfl
@[go_sem] theorem pvn_call (f : IX → AV) (σ : St) (n : Nat) (l : List IX) : pv (.call n l) f σ = .no := rfl
@[go_sem] theorem pvn_callv (f : IX → AV) (σ : St) (x : IX) (l : List IX) : pv (.callv x l) f σ = .no := rfl
@[go_sem] theorem inner_bool (b : Bool) : inner (.bool b) = true := rfl
@[go_sem] theorem inner_int (k : IntKind) (n : Int) : inner (.int k n) = true := rfl
@[go_sem] theorem inner_str (s : List UInt8) : inner (.str s) = true := rfl
@[go_sem] theorem inner_nilp  : inner (.nilp) = true := rfl
@[go_sem] theorem inner_ref (b o : Nat) : inner (.ref b o) = true := rfl
@[go_sem] theorem inner_lp (b o : Nat) : inner (.lp b o) = true := rfl
@[go_sem] theorem inner_sp (cs : List AV) : inner (.sp cs) = true := rfl
@[go_sem] theorem inner_sl (o : Bool) (z n : Nat) (cs : List AV) : inner (.sl o z n cs) = true := rfl
@[go_sem] theorem inner_arr (b o l c : Nat) : inner (.arr b o l c) = true := rfl
@[go_sem] theorem inner_agg (cs : List AV) : inner (.agg cs) = true := rfl
@[go_sem] theorem unw_when_self (g : Bool) (a : AV) : unw g (.when g a) = bif inner a then a else .undef := by simp [unw]
@[go_sem] theorem gv2_bool (x : Bool) : gv2 (.bool x) = some (true, x) := rfl
@[go_sem] theorem gv2_when (b x : Bool) : gv2 (.when b (.bool x)) = some (b, x) := rfl
@[go_sem] theorem gv2_tup : gv2 (.tup []) = some (false, false) := rfl
@[go_sem] theorem nest_1 (g b : Bool) : (g = true → b = true → (g && b) = true) = True := by cases g <;> cases b <;> simp
@[go_sem] theorem nest_2 (g b : Bool) : (g = true → b = false → (g && !b) = true) = True := by cases g <;> cases b <;> simp
@[go_sem] theorem nest_3 (b : Bool) : (b = false → (!b) = true) = True := by cases b <;> simp
@[go_sem] theorem cond_and (b x : Bool) : (bif b then x else false) = (b && x) := by cases b <;> rfl
@[go_sem] theorem cond_or (b x : Bool) : (bif b then true else x) = (b || x) := by cases b <;> rfl
@[go_sem] theorem beq_t (b : Bool) : (b == true) = b := by cases b <;> rfl
@[go_sem] theorem beq_f (b : Bool) : (b == false) = !b := by cases b <;> rfl
@[go_sem] theorem kEq_self (k : IntKind) : kEq k k = true := by simp [kEq]
@[go_sem] theorem rsOK_nil : rsOK [] = true := rfl
@[go_sem] theorem rsOK_two (a b : AV) (l : List AV) : rsOK (a :: b :: l) = true := rfl
@[go_sem] theorem retV_nil : retV [] = .tup [] := rfl
@[go_sem] theorem retV_two (a b : AV) (l : List AV) : retV (a :: b :: l) = .tup (a :: b :: l) := rfl
@[go_sem] theorem views_nil : views [] = [] := rfl
@[go_sem] theorem views_cons (a : AV) (l : List AV) : views (a :: l) = view a :: views l := rfl
@[go_sem] theorem x_t (σ : St) (i : Nat) : σ.x (.t i) = look σ.e i := rfl
@[go_sem] theorem x_c (σ : St) (a : AV) : σ.x (.c a) = a := rfl
@[go_sem] theorem put_some (σ : St) (i : Nat) (a : AV) : σ.put (some i) a = { σ with e := (i, a) :: σ.e } := rfl
@[go_sem] theorem put_none (σ : St) (a : AV) : σ.put none a = σ := rfl
@[go_sem] theorem look_nil (i : Nat) : look [] i = .undef := rfl
@[go_sem] theorem look_consB (j i : Nat) (a : AV) (l : List (Nat × AV)) : look ((j, a) :: l) i = bif j == i then a else look l i := rfl
section
variable (P : Program) (K : St → Prop) (σ : St)
@[go_sem] theorem qwp_zero (l : List IOper) : qwp P 0 l σ K = swp P l σ K := rfl
@[go_sem] theorem qwp_cons (q : Nat) (o : IOper) (r : List IOper) : qwp P (q + 1) (o :: r) σ K = (slotFree σ o.dst = true ∧ q1 P o σ (qwpK P q r K)) := rfl
@[go_sem] theorem q1_mov (d : Option Nat) (x : IX) : q1 P ⟨d, .mov false x, none⟩ σ K = qK σ d K (qv ⟨d, .mov false x, none⟩ σ) := rfl
@[go_sem] theorem q2_mov (d : Option Nat) (x : IX) : q2 P ⟨d, .mov false x, none⟩ σ K = (slotFree σ d = true ∧ qK σ d K (qv ⟨d, .mov false x, none⟩ σ)) := by cases d <;> rfl
@[go_sem] theorem q1_movG (d : Option Nat) (t : Nat) (want : Bool) (x : IX) : q1 P ⟨d, .mov false x, (some (t, want))⟩ σ K = qK σ d K (qv ⟨d, .mov false x, (some (t, want))⟩ σ) := rfl
@[go_sem] theorem q1_pick (d : Option Nat) (c x y : IX) : q1 P ⟨d, .pick c x y, none⟩ σ K = qK σ d K (qv ⟨d, .pick c x y, none⟩ σ) := rfl
@[go_sem] theorem q1_pickG (d : Option Nat) (t : Nat) (want : Bool) (c x y : IX) : q1 P ⟨d, .pick c x y, (some (t, want))⟩ σ K = qK σ d K (qv ⟨d, .pick c x y, (some (t, want))⟩ σ) := rfl
@[go_sem] theorem q2_build (d : Option Nat) (z : List AV) (ps : List (Nat × Nat × IX)) : q2 P ⟨d, .build z ps, none⟩ σ K = (slotFree σ d = true ∧ qK σ d K (qv ⟨d, .build z ps, none⟩ σ)) := by cases d <;> rfl
@[go_sem] theorem q1_buildG (d : Option Nat) (t : Nat) (want : Bool) (z : List AV) (ps : List (Nat × Nat × IX)) : q1 P ⟨d, .build z ps, (some (t, want))⟩ σ K = qK σ d K (qv ⟨d, .build z ps, (some (t, want))⟩ σ) := rfl
@[go_sem] theorem q1_load (d : Option Nat) (n : Nat) (m : Bool) (x : IX) : q1 P ⟨d, .load n m x, none⟩ σ K = qK σ d K (qv ⟨d, .load n m x, none⟩ σ) := rfl
@[go_sem] theorem q2_load (d : Option Nat) (n : Nat) (m : Bool) (x : IX) : q2 P ⟨d, .load n m x, none⟩ σ K = (slotFree σ d = true ∧ qK σ d K (qv ⟨d, .load n m x, none⟩ σ)) := by cases d <;> rfl
@[go_sem] theorem q1_loadG (d : Option Nat) (t : Nat) (want : Bool) (n : Nat) (m : Bool) (x : IX) : q1 P ⟨d, .load n m x, (some (t, want))⟩ σ K = qK σ d K (qv ⟨d, .load n m x, (some (t, want))⟩ σ) := rfl
@[go_sem] theorem q1_nilCheck (d : Option Nat) (x : IX) : q1 P ⟨d, .nilCheck x, none⟩ σ K = qK σ d K (qv ⟨d, .nilCheck x, none⟩ σ) := rfl
@[go_sem] theorem q2_nilCheck (d : Option Nat) (x : IX) : q2 P ⟨d, .nilCheck x, none⟩ σ K = (slotFree σ d = true ∧ qK σ d K (qv ⟨d, .nilCheck x, none⟩ σ)) := by cases d <;> rfl
@[go_sem] theorem q1_nilCheckG (d : Option Nat) (t : Nat) (want : Bool) (x : IX) : q1 P ⟨d, .nilCheck x, (some (t, want))⟩ σ K = qK σ d K (qv ⟨d, .nilCheck x, (some (t, want))⟩ σ) := rfl
@[go_sem] theorem q1_bin (d : Option Nat) (b : BinOp) (x y : IX) : q1 P ⟨d, .bin b x y, none⟩ σ K = qK σ d K (qv ⟨d, .bin b x y, none⟩ σ) := rfl
@[go_sem] theorem q2_bin (d : Option Nat) (b : BinOp) (x y : IX) : q2 P ⟨d, .bin b x y, none⟩ σ K = (slotFree σ d = true ∧ qK σ d K (qv ⟨d, .bin b x y, none⟩ σ)) := by cases d <;> rfl
@[go_sem] theorem q1_binG (d : Option Nat) (t : Nat) (want : Bool) (b : BinOp) (x y : IX) : q1 P ⟨d, .bin b x y, (some (t, want))⟩ σ K = qK σ d K (qv ⟨d, .bin b x y, (some (t, want))⟩ σ) := rfl
@[go_sem] theorem q1_eqB (d : Option Nat) (n : Bool) (x y : IX) : q1 P ⟨d, .eqB n x y, none⟩ σ K = qK σ d K (qv ⟨d, .eqB n x y, none⟩ σ) := rfl
@[go_sem] theorem q1_eqBG (d : Option Nat) (t : Nat) (want : Bool) (n : Bool) (x y : IX) : q1 P ⟨d, .eqB n x y, (some (t, want))⟩ σ K = qK σ d K (qv ⟨d, .eqB n x y, (some (t, want))⟩ σ) := rfl
@[go_sem] theorem q1_eqP (d : Option Nat) (n : Bool) (x y : IX) : q1 P ⟨d, .eqP n x y, none⟩ σ K = qK σ d K (qv ⟨d, .eqP n x y, none⟩ σ) := rfl
@[go_sem] theorem q1_un (d : Option Nat) (u : UnOp) (x : IX) : q1 P ⟨d, .un u x, none⟩ σ K = qK σ d K (qv ⟨d, .un u x, none⟩ σ) := rfl
@[go_sem] theorem q1_unG (d : Option Nat) (t : Nat) (want : Bool) (u : UnOp) (x : IX) : q1 P ⟨d, .un u x, (some (t, want))⟩ σ K = qK σ d K (qv ⟨d, .un u x, (some (t, want))⟩ σ) := rfl
@[go_sem] theorem q1_cvtInt (d : Option Nat) (k : IntKind) (x : IX) : q1 P ⟨d, .cvtInt k x, none⟩ σ K = qK σ d K (qv ⟨d, .cvtInt k x, none⟩ σ) := rfl
@[go_sem] theorem q1_sindex (d : Option Nat) (x i : IX) : q1 P ⟨d, .sindex x i, none⟩ σ K = qK σ d K (qv ⟨d, .sindex x i, none⟩ σ) := rfl
@[go_sem] theorem q2_sindex (d : Option Nat) (x i : IX) : q2 P ⟨d, .sindex x i, none⟩ σ K = (slotFree σ d = true ∧ qK σ d K (qv ⟨d, .sindex x i, none⟩ σ)) := by cases d <;> rfl
@[go_sem] theorem q1_sindexG (d : Option Nat) (t : Nat) (want : Bool) (x i : IX) : q1 P ⟨d, .sindex x i, (some (t, want))⟩ σ K = qK σ d K (qv ⟨d, .sindex x i, (some (t, want))⟩ σ) := rfl
@[go_sem] theorem q1_fieldAddr (d : Option Nat) (f : Nat) (x : IX) : q1 P ⟨d, .fieldAddr f x, none⟩ σ K = qK σ d K (qv ⟨d, .fieldAddr f x, none⟩ σ) := rfl
@[go_sem] theorem q2_fieldAddr (d : Option Nat) (f : Nat) (x : IX) : q2 P ⟨d, .fieldAddr f x, none⟩ σ K = (slotFree σ d = true ∧ qK σ d K (qv ⟨d, .fieldAddr f x, none⟩ σ)) := by cases d <;> rfl
@[go_sem] theorem q1_fieldAddrG (d : Option Nat) (t : Nat) (want : Bool) (f : Nat) (x : IX) : q1 P ⟨d, .fieldAddr f x, (some (t, want))⟩ σ K = qK σ d K (qv ⟨d, .fieldAddr f x, (some (t, want))⟩ σ) := rfl
@[go_sem] theorem q1_indexAddr (d : Option Nat) (z : List AV) (x i : IX) : q1 P ⟨d, .indexAddr z x i, none⟩ σ K = qK σ d K (qv ⟨d, .indexAddr z x i, none⟩ σ) := rfl
@[go_sem] theorem q2_indexAddr (d : Option Nat) (z : List AV) (x i : IX) : q2 P ⟨d, .indexAddr z x i, none⟩ σ K = (slotFree σ d = true ∧ qK σ d K (qv ⟨d, .indexAddr z x i, none⟩ σ)) := by cases d <;> rfl
@[go_sem] theorem q1_indexAddrG (d : Option Nat) (t : Nat) (want : Bool) (z : List AV) (x i : IX) : q1 P ⟨d, .indexAddr z x i, (some (t, want))⟩ σ K = qK σ d K (qv ⟨d, .indexAddr z x i, (some (t, want))⟩ σ) := rfl
@[go_sem] theorem q1_slice (d : Option Nat) (z : Nat) (x : IX) (lo hi mx : Option IX) : q1 P ⟨d, .slice z x lo hi mx, none⟩ σ K = qK σ d K (qv ⟨d, .slice z x lo hi mx, none⟩ σ) := rfl
@[go_sem] theorem q1_sslice (d : Option Nat) (x : IX) (lo hi : Option IX) : q1 P ⟨d, .sslice x lo hi, none⟩ σ K = qK σ d K (qv ⟨d, .sslice x lo hi, none⟩ σ) := rfl
@[go_sem] theorem q1_extract (d : Option Nat) (x : IX) (k : Nat) : q1 P ⟨d, .extract x k, none⟩ σ K = qK σ d K (qv ⟨d, .extract x k, none⟩ σ) := rfl
@[go_sem] theorem q2_extract (d : Option Nat) (x : IX) (k : Nat) : q2 P ⟨d, .extract x k, none⟩ σ K = (slotFree σ d = true ∧ qK σ d K (qv ⟨d, .extract x k, none⟩ σ)) := by cases d <;> rfl
@[go_sem] theorem q1_len (d : Option Nat) (c : Nat) (x : IX) : q1 P ⟨d, .len c x, none⟩ σ K = qK σ d K (qv ⟨d, .len c x, none⟩ σ) := rfl
@[go_sem] theorem q1_lenG (d : Option Nat) (t : Nat) (want : Bool) (c : Nat) (x : IX) : q1 P ⟨d, .len c x, (some (t, want))⟩ σ K = qK σ d K (qv ⟨d, .len c x, (some (t, want))⟩ σ) := rfl
@[go_sem] theorem q1_minmax (d : Option Nat) (m : Bool) (xs : List IX) : q1 P ⟨d, .minmax m xs, none⟩ σ K = qK σ d K (qv ⟨d, .minmax m xs, none⟩ σ) := rfl
@[go_sem] theorem q1_call (d : Option Nat) (f : Nat) (args : List IX) : q1 P ⟨d, .call f args, none⟩ σ K = qCall P f σ d K (argsV (xg true σ) args) := rfl
@[go_sem] theorem q2_call (d : Option Nat) (f : Nat) (args : List IX) : q2 P ⟨d, .call f args, none⟩ σ K = (slotFree σ d = true ∧ qCall P f σ d K (argsV (xg true σ) args)) := by cases d <;> rfl
@[go_sem] theorem q1_callG (d : Option Nat) (f : Nat) (args : List IX) (t : Nat) (want : Bool) : q1 P ⟨d, .call f args, some (t, want)⟩ σ K = qCallG P f args want σ d K (look σ.e t) := rfl
@[go_sem] theorem q1_cvtStr (d : Option Nat) (x : IX) : q1 P ⟨d, .cvtStr x, none⟩ σ K = qK σ d K (qv ⟨d, .cvtStr x, none⟩ σ) := rfl
@[go_sem] theorem q1_buildSl (d : Option Nat) (sz n : Nat) (z : List AV) (ps : List (Nat × Nat × IX)) (g : Option (Nat × Bool)) : q1 P ⟨d, .buildSl sz n z ps, g⟩ σ K = qK σ d K (qeO ⟨d, .buildSl sz n z ps, g⟩ σ) := rfl
@[go_sem] theorem q1_loadR (d : Option Nat) (z : List AV) (m : Bool) (x : IX) : q1 P ⟨d, .loadR z m x, none⟩ σ K = qK σ d K (qv ⟨d, .loadR z m x, none⟩ σ) := rfl
@[go_sem] theorem q2_loadR (d : Option Nat) (z : List AV) (m : Bool) (x : IX) : q2 P ⟨d, .loadR z m x, none⟩ σ K = (slotFree σ d = true ∧ qK σ d K (qv ⟨d, .loadR z m x, none⟩ σ)) := by cases d <;> rfl
@[go_sem] theorem q1_loadRG (d : Option Nat) (t : Nat) (want : Bool) (z : List AV) (m : Bool) (x : IX) : q1 P ⟨d, .loadR z m x, (some (t, want))⟩ σ K = qK σ d K (qv ⟨d, .loadR z m x, (some (t, want))⟩ σ) := rfl
@[go_sem] theorem pv_loadR' (f : IX → AV) (σ : St) (z : List AV) (m : Bool) (x : IX) : pv (.loadR z m x) f σ = loadP z m σ.s (f x) := rfl
@[go_sem] theorem pvn_cvtRow' (f : IX → AV) (σ : St) (x : IX) : pv (.cvtRow x) f σ = .no := rfl
@[go_sem] theorem iwp_cvtRow (d : Option Nat) (x : IX) : iwp P (.cvtRow x) d σ K = prK σ d K (rowV (xg true σ x)) := rfl
@[go_sem] theorem q1_movTup (d : Option Nat) (x : IX) (g : Option (Nat × Bool)) : q1 P ⟨d, .movT x, g⟩ σ K = qK σ d K (qeO ⟨d, .movT x, g⟩ σ) := rfl
@[go_sem] theorem q2_movTup (d : Option Nat) (x : IX) (g : Option (Nat × Bool)) : q2 P ⟨d, .movT x, g⟩ σ K = (slotFree σ d = true ∧ qK σ d K (qeO ⟨d, .movT x, g⟩ σ)) := by cases d <;> rfl
@[go_sem] theorem pvn_movT' (f : IX → AV) (σ : St) (x : IX) : pv (.movT x) f σ = .no := rfl
@[go_sem] theorem iwp_movT (d : Option Nat) (x : IX) : iwp P (.movT x) d σ K = prK σ d K (tupV (xg true σ x)) := rfl
@[go_sem] theorem qe_movT (f : IX → AV) (s : Store) (x : IX) : qe f s (.movT x) = tupV (f x) := rfl
@[go_sem] theorem qeO_none (d : Option Nat) (o : IOp) : qeO ⟨d, o, none⟩ σ = qe (xg true σ) σ.s o := rfl
@[go_sem] theorem qe_build (f : IX → AV) (s : Store) (sz n : Nat) (z : List AV) (ps : List (Nat × Nat × IX)) : qe f s (.buildSl sz n z ps) = rowPR sz n (fill f z ps) := rfl
@[go_sem] theorem rowV_sl (n : Nat) (x : Int) (cs : List AV) : rowV (.sl true 1 (n + 1) (.int .u8 x :: cs)) = .tot (.sl false 1 (n + 1) (.int .u8 x :: cs)) := rfl
attribute [go_sem] tupV.eq_1 loadP.eq_1 loadS.eq_1 lookupV.eq_1 lookupV.eq_2 prK.eq_1 prK.eq_2 prK.eq_3
attribute [go_sem] bytesPR.eq_1 rowPR.eq_1
@[go_sem] theorem qv_none (d : Option Nat) (o : IOp) : qv ⟨d, o, none⟩ σ = pv o (xg true σ) σ := rfl
@[go_sem] theorem qv_some (d : Option Nat) (o : IOp) (t : Nat) (want : Bool) : qv ⟨d, o, some (t, want)⟩ σ = qvG o want σ (look σ.e t) := rfl
@[go_sem] theorem pv_cap' (f : IX → AV) (σ : St) (x : IX) : pv (.cap x) f σ = capV (f x) := rfl
@[go_sem] theorem pv_slice3' (f : IX → AV) (σ : St) (z : Nat) (x : IX) (lo hi : Option IX) (m : IX) : pv (.slice z x lo hi (some m)) f σ = slice3V z f lo hi m (f x) := rfl
@[go_sem] theorem pvn_buildSlA (f : IX → AV) (σ : St) (a b : Nat) (z : List AV) (p : List (Nat × Nat × IX)) : pv (.buildSlA a b z p) f σ = .no := rfl
@[go_sem] theorem pvn_appendA (f : IX → AV) (σ : St) (a b : Nat) (z : List AV) (x y : IX) : pv (.appendA a b z x y) f σ = .no := rfl
@[go_sem] theorem pvn_appendZ (f : IX → AV) (σ : St) (a b : Nat) (z : List AV) (x y : IX) : pv (.appendZ a b z x y) f σ = .no := rfl
@[go_sem] theorem iwp_appendZ (d : Option Nat) (sz by' : Nat) (z : List AV) (x y : IX) : iwp P (.appendZ sz by' z x y) d σ K = appendZW sz by' z σ d K (σ.x x) (xg true σ y) := rfl
@[go_sem] theorem pvn_clearA (f : IX → AV) (σ : St) (z : List AV) (x : IX) : pv (.clearA z x) f σ = .no := rfl
@[go_sem] theorem pvn_frz (f : IX → AV) (σ : St) (a : Nat) (o : Bool) (x : IX) : pv (.frz a o x) f σ = .no := rfl
@[go_sem] theorem pvn_loadE (f : IX → AV) (σ : St) (off : Nat) (j x : IX) : pv (.loadE off j x) f σ = .no := rfl
@[go_sem] theorem pvn_loadD (f : IX → AV) (σ : St) (x : IX) : pv (.loadD x) f σ = .no := rfl
@[go_sem] theorem pvn_eqN (f : IX → AV) (σ : St) (o : Bool) (x : IX) : pv (.eqN o x) f σ = .no := rfl
@[go_sem] theorem iwp_buildSlA (d : Option Nat) (sz n : Nat) (z : List AV) (p : List (Nat × Nat × IX)) : iwp P (.buildSlA sz n z p) d σ K = buildSlAW sz n σ d K (fill (xg true σ) z p) := rfl
@[go_sem] theorem iwp_appendA (d : Option Nat) (sz by' : Nat) (z : List AV) (x y : IX) : iwp P (.appendA sz by' z x y) d σ K = appendAW sz by' z σ d K (σ.x x) (srcV σ.s sz (σ.x y)) := rfl
@[go_sem] theorem iwp_clearA (d : Option Nat) (z : List AV) (x : IX) : iwp P (.clearA z x) d σ K = clearAW z σ d K (σ.x x) := rfl
@[go_sem] theorem iwp_frz (d : Option Nat) (sz : Nat) (o : Bool) (x : IX) : iwp P (.frz sz o x) d σ K = frzW sz o σ d K (σ.x x) := rfl
@[go_sem] theorem iwp_loadD (d : Option Nat) (x : IX) : iwp P (.loadD x) d σ K = loadDW σ d K (σ.x x) := rfl
@[go_sem] theorem iwp_eqN (d : Option Nat) (o : Bool) (x : IX) : iwp P (.eqN o x) d σ K = eqNW o σ d K (σ.x x) := rfl
@[go_sem] theorem q1_callvG (d : Option Nat) (x : IX) (args : List IX) (t : Nat) (want : Bool) : q1 P ⟨d, .callv x args, some (t, want)⟩ σ K = qCallvG P x args want σ d K (look σ.e t) := rfl
@[go_sem] theorem qCallvG_bool (x : IX) (args : List IX) (want b : Bool) (d : Option Nat) : qCallvG P x args want σ d K (.bool b) = (∃ rs, rsOK rs = true ∧ ((b == want) = true → ∃ f as, callee x args (b == want) σ f as ∧ fnOK P f = true ∧ FE P f as σ.s rs σ.s) ∧ K (σ.put d (.when (b == want) (retV rs)))) := rfl
@[go_sem] theorem pv_eqI' (f : IX → AV) (σ : St) (ne : Bool) (x : IX) : pv (.eqI ne x) f σ = eqIV ne (f x) := rfl
@[go_sem] theorem eqPV_rr (ne : Bool) (b o : Nat) : eqPV ne (.ref b o) (.ref b o) = .tot (.bool (!ne)) := by simp [eqPV]
@[go_sem] theorem pvn_cvtU (f : IX → AV) (σ : St) (x : IX) : pv (.cvtU x) f σ = .no := rfl
@[go_sem] theorem pvn_cvtF (f : IX → AV) (σ : St) (u : Nat) (x : IX) : pv (.cvtF u x) f σ = .no := rfl
@[go_sem] theorem pvn_boxT (f : IX → AV) (σ : St) (n t j u : Nat) (x : IX) : pv (.boxT n t j u x) f σ = .no := rfl
@[go_sem] theorem pvn_appendB (f : IX → AV) (σ : St) (t : Nat) (x y : IX) : pv (.appendB t x y) f σ = .no := rfl
@[go_sem] theorem iwp_appendB (d : Option Nat) (t : Nat) (x y : IX) : iwp P (.appendB t x y) d σ K = appendBW t σ x d K (σ.x x) (σ.x y) := rfl
@[go_sem] theorem iwp_cvtU (d : Option Nat) (x : IX) : iwp P (.cvtU x) d σ K = cvtUW σ d K (σ.x x) := rfl
@[go_sem] theorem iwp_cvtF (d : Option Nat) (u : Nat) (x : IX) : iwp P (.cvtF u x) d σ K = cvtFW P u σ d K (σ.x x) := rfl
@[go_sem] theorem iwp_boxT (d : Option Nat) (n t j u : Nat) (x : IX) : iwp P (.boxT n t j u x) d σ K = boxTW n t j u σ d K (σ.x x) := rfl
@[go_sem] theorem pvn_callX (f : IX → AV) (σ : St) (g : Nat) (x : IX) : pv (.callX g x) f σ = .no := rfl
@[go_sem] theorem iwp_callX (d : Option Nat) (f : Nat) (x : IX) : iwp P (.callX f x) d σ K = callXW P f σ d K (σ.x x) := rfl
@[go_sem] theorem pvn_loadF (f : IX → AV) (σ : St) (z : Nat) (o : Bool) (x : IX) : pv (.loadF z o x) f σ = .no := rfl
@[go_sem] theorem iwp_loadF (d : Option Nat) (z : Nat) (o : Bool) (x : IX) : iwp P (.loadF z o x) d σ K = loadFW z o σ d K (rd σ (xg true σ x) 1) := rfl
attribute [go_sem] loadFW.eq_1 appendBW.eq_1 appendBW.eq_2 callXW eqIV.eq_1 boxTW cvtUW.eq_1 cvtFW.eq_1 cvtUS.eq_1 cvtFS.eq_1
attribute [go_sem] storeNW boxNW
@[go_sem] theorem pvn_callU (f : IX → AV) (σ : St) (g i : Nat) (xs : List IX) : pv (.callU g i xs) f σ = .no := rfl
@[go_sem] theorem iwp_callU (d : Option Nat) (f i : Nat) (xs : List IX) : iwp P (.callU f i xs) d σ K = thawW i σ (fun τ => callW P f τ d K (argsV (xg true τ) xs)) (look σ.e i) := rfl
attribute [go_sem] allInts.eq_1 allInts.eq_2 eqInts.eq_1
attribute [go_sem] eqFV.eq_1 eqFV.eq_2
attribute [go_sem] capV.eq_1 slice3V.eq_1 slice3Arr.eq_1 buildSlAW.eq_1 eqNW.eq_1 eqNW.eq_2
@[go_sem] theorem qwpT_zero (T : List Nat) (l : List IOper) : qwpT P T 0 l σ K = swp P l σ K := rfl
@[go_sem] theorem qwpT_cons (T : List Nat) (q : Nat) (o : IOper) (r : List IOper) : qwpT P T (q + 1) (o :: r) σ K = q2 P o σ (qwpTK P T q r K) := rfl
@[go_sem] theorem qwpTK_app (T : List Nat) (q : Nat) (r : List IOper) (τ : St) : qwpTK P T q r K τ = (noLpB T τ.e = true ∧ qwpT P T q r τ K) := rfl
@[go_sem] theorem bwp_nil (T : List Nat) : bwp P T [] σ K = K σ := rfl
@[go_sem] theorem bwp_0 (T : List Nat) (i : Nat) (o : IOper) (r : List (Nat × Nat × IOper)) : bwp P T ((0, i, o) :: r) σ K = q2 P o σ (bwpK P T r K) := rfl
@[go_sem] theorem bwp_1 (T : List Nat) (i : Nat) (o : IOper) (r : List (Nat × Nat × IOper)) : bwp P T ((1, i, o) :: r) σ K = (sfree o σ = true ∧ q2 P o σ (bwpK P T r K)) := rfl
@[go_sem] theorem bwp_2 (T : List Nat) (i : Nat) (o : IOper) (r : List (Nat × Nat × IOper)) : bwp P T ((2, i, o) :: r) σ K = bbw P o σ (bwpK P T r K) := rfl
@[go_sem] theorem bwpK_app (T : List Nat) (r : List (Nat × Nat × IOper)) (τ : St) : bwpK P T r K τ = (noLpB T τ.e = true ∧ bwp P T r τ K) := rfl
@[go_sem] theorem bbw_call (d : Option Nat) (f : Nat) (args : List IX) : bbw P ⟨d, .call f args, none⟩ σ K = (slotFree σ d = true ∧ callW P f σ d K (argsV (xg true σ) args)) := by
 show (slotFree σ d = true ∧ brCall P f σ.s (bbK σ d K) (argsV (xg true σ) args)) = _
 cases argsV (xg true σ) args <;> rfl
@[go_sem] theorem bbw_store (d : Option Nat) (n : Nat) (p v : IX) : bbw P ⟨d, .store n p v, none⟩ σ K = (slotFree σ d = true ∧ brStore n σ.s (bbK σ d K) (σ.x v) (σ.x p)) := rfl
@[go_sem] theorem bbK_app (d : Option Nat) (a : AV) (s' : Store) : bbK σ d K a s' = K ({ σ with s := s' }.put d a) := rfl
@[go_sem] theorem brStore_ref (n : Nat) (s : Store) (C : AV → Store → Prop) (v : AV) (b off : Nat) : brStore n s C v (.ref b off) = (isV v = true ∧ noOwn v = true ∧ (stCells v).length = n ∧ brSto b off (stCells v) s C (s b)) := rfl
@[go_sem] theorem brSto_cells (b off : Nat) (news : List AV) (s : Store) (C : AV → Store → Prop) (old : List AV) : brSto b off news s C (some (.cells old)) = (off + news.length ≤ old.length ∧ C (.tup []) (s.set b (.cells (setAt old off news)))) := rfl
attribute [go_sem] sfree
@[go_sem] theorem noOwn_int (k : IntKind) (n : Int) : noOwn (.int k n) = true := rfl
@[go_sem] theorem noRef_loc (cs : List AV) : noRef (.loc cs) = true := rfl
@[go_sem] theorem noOwn_slf (z n : Nat) (cs : List AV) : noOwn (.sl false z n cs) = true := rfl
@[go_sem] theorem noLpB_nil (T : List Nat) : noLpB T [] = true := rfl
@[go_sem] theorem noLpB_cons (T : List Nat) (p : Nat × AV) (e : List (Nat × AV)) : noLpB T (p :: e) = (lpNots T p.2 && noLpB T e) := rfl
@[go_sem] theorem lpNots_nil (a : AV) : lpNots [] a = true := rfl
@[go_sem] theorem lpNots_cons (c : Nat) (T : List Nat) (a : AV) : lpNots (c :: T) a = (lpNot c a && lpNots T a) := rfl
@[go_sem] theorem lpNot_lp (c t o : Nat) : lpNot c (.lp t o) = !Nat.beq t c := rfl
@[go_sem] theorem qStoW_loc (n c : Nat) (x : IX) (old : List AV) : qStoW n σ c x K (.loc old) = (old.length = n ∧ isV (σ.x x) = true ∧ (stCells (σ.x x)).length = n ∧ K ((σ.drain x).put (some c) (.loc (stCells (σ.x x))))) := rfl
@[go_sem] theorem q2_store (n c : Nat) (x : IX) : q2 P ⟨none, .store n (.t c) x, none⟩ σ K = qStoW n σ c x K (look σ.e c) := rfl
@[go_sem] theorem q2_allocL (d : Nat) (z : List AV) : q2 P ⟨some d, .allocL z, none⟩ σ K = (notLoc (look σ.e d) = true ∧ lpFree σ.lp (some d) = true ∧ K (σ.put (some d) (.loc z))) := rfl
@[go_sem] theorem lpNot_bool (c' : Nat) (b : Bool) : lpNot c' (.bool b) = true := rfl
@[go_sem] theorem lpNot_int (c' : Nat) (k : IntKind) (n : Int) : lpNot c' (.int k n) = true := rfl
@[go_sem] theorem lpNot_nilp (c' : Nat)  : lpNot c' (.nilp ) = true := rfl
@[go_sem] theorem lpNot_ref (c' : Nat) (b o : Nat) : lpNot c' (.ref b o) = true := rfl
@[go_sem] theorem lpNot_loc (c' : Nat) (cs : List AV) : lpNot c' (.loc cs) = true := rfl
@[go_sem] theorem lpNot_sl (c' : Nat) (o : Bool) (s n : Nat) (cs : List AV) : lpNot c' (.sl o s n cs) = true := rfl
@[go_sem] theorem lpNot_agg (c' : Nat) (cs : List AV) : lpNot c' (.agg cs) = true := rfl
@[go_sem] theorem lpNot_tup (c' : Nat) (cs : List AV) : lpNot c' (.tup cs) = true := rfl
@[go_sem] theorem slotFree_none : slotFree σ none = true := rfl
@[go_sem] theorem slotFree_some (d : Nat) : slotFree σ (some d) = notLoc (look σ.e d) := rfl
@[go_sem] theorem notLoc_when (b : Bool) (a : AV) : notLoc (.when b a) = true := rfl
@[go_sem] theorem notLoc_lp (b o : Nat) : notLoc (.lp b o) = true := rfl
@[go_sem] theorem notLoc_undef  : notLoc (.undef ) = true := rfl
@[go_sem] theorem notLoc_bool (b : Bool) : notLoc (.bool b) = true := rfl
@[go_sem] theorem notLoc_int (k : IntKind) (n : Int) : notLoc (.int k n) = true := rfl
@[go_sem] theorem notLoc_str (s : List UInt8) : notLoc (.str s) = true := rfl
@[go_sem] theorem notLoc_nilp  : notLoc (.nilp ) = true := rfl
@[go_sem] theorem notLoc_ref (b o : Nat) : notLoc (.ref b o) = true := rfl
@[go_sem] theorem notLoc_sp (cs : List AV) : notLoc (.sp cs) = true := rfl
@[go_sem] theorem notLoc_sl (o : Bool) (z n : Nat) (cs : List AV) : notLoc (.sl o z n cs) = true := rfl
@[go_sem] theorem notLoc_arr (b o l c : Nat) : notLoc (.arr b o l c) = true := rfl
@[go_sem] theorem notLoc_agg (cs : List AV) : notLoc (.agg cs) = true := rfl
@[go_sem] theorem notLoc_tup (cs : List AV) : notLoc (.tup cs) = true := rfl
@[go_sem] theorem rdO_loadR (z : List AV) (m : Bool) (x : IX) : rdO (.loadR z m x) = true := rfl
attribute [go_sem] wPQ.eq_1 wPQ.eq_2 wPQ.eq_3 wPR.eq_1 wPR.eq_2 wPR.eq_3 qvG.eq_1 qvG.eq_2 qK.eq_1 qK.eq_2 qK.eq_3 qCall.eq_1 qCallG.eq_1 qCallG.eq_2 qStr.eq_1
end
@[go_sem] theorem dropLp_bool (b : Bool) : dropLp (.bool b) = .bool b := rfl
@[go_sem] theorem dropLp_int (k : IntKind) (n : Int) : dropLp (.int k n) = .int k n := rfl
@[go_sem] theorem dropLp_str (s : List UInt8) : dropLp (.str s) = .str s := rfl
@[go_sem] theorem dropLp_nilp  : dropLp (.nilp ) = .nilp  := rfl
@[go_sem] theorem dropLp_ref (b o : Nat) : dropLp (.ref b o) = .ref b o := rfl
@[go_sem] theorem dropLp_loc (cs : List AV) : dropLp (.loc cs) = .loc cs := rfl
@[go_sem] theorem dropLp_sl (o : Bool) (z n : Nat) (cs : List AV) : dropLp (.sl o z n cs) = .sl o z n cs := rfl
@[go_sem] theorem dropLp_arr (b o l c : Nat) : dropLp (.arr b o l c) = .arr b o l c := rfl
@[go_sem] theorem dropLp_fn (f : Nat) (x y : List AV) : dropLp (.fn f x y) = .fn f x y := rfl
@[go_sem] theorem cond_t {α : Type} (a b : α) : (bif true then a else b) = a := rfl
@[go_sem] theorem cond_f {α : Type} (a b : α) : (bif false then a else b) = b := rfl
attribute [go_sem] nxt.eq_1 nxt.eq_2 nxt.eq_3 nxg.eq_1 nxg.eq_2 nxg.eq_3 gsel.eq_1 gsel.eq_2 gsel.eq_3 iwp.eq_1 iwp.eq_2 iwp.eq_3 iwp.eq_4 iwp.eq_5 iwp.eq_6 iwp.eq_7 iwp.eq_8 iwp.eq_9 iwp.eq_10 iwp.eq_11 iwp.eq_12 iwp.eq_13 iwp.eq_14 iwp.eq_15 iwp.eq_16 pickB.eq_1 pickV.eq_1 unV.eq_1 unV.eq_2 cvtIntV.eq_1 cvtIdV.eq_1 loadV.eq_1 loadV.eq_2 fieldV.eq_1 indexV.eq_1 sindexV.eq_1 nilCheckV.eq_1 locA.eq_1 minK.eq_1 fieldAddrV.eq_1 fieldAddrV.eq_2 fieldAddrV.eq_3 fieldAddrV.eq_4 indexAddrV.eq_1 indexAddrV.eq_2 aindexAddrV.eq_1 aindexAddrV.eq_2 aindexAddrV.eq_3 aindexAddrV.eq_4 sliceSl.eq_1 sliceArr.eq_1 sliceV.eq_1 sliceV.eq_2 sliceStr.eq_1 sliceStrV.eq_1 lenMap.eq_1 lenV.eq_1 lenV.eq_2 lenV.eq_3 lenV.eq_4 lenV.eq_5 minmaxV.eq_1 extractO.eq_1 extractV.eq_1 buildV.eq_1 minL.eq_1 minL.eq_2 aggOf.eq_1 aggOf.eq_2 rdLoc.eq_1 rdSO.eq_1 rd.eq_1 rd.eq_2 rd.eq_3 rd.eq_4 lpFree.eq_1 lpFree.eq_2 stK.eq_1 buildSlW.eq_1 appendW.eq_1 appendW.eq_2 cvtStrW.eq_1 cvtBytesW.eq_1 makeSlW.eq_1 makeOwW.eq_1 okV.eq_1 okV.eq_2 callvW.eq_1 argC.eq_1 argsV.eq_1 argsV.eq_2 makeFnV.eq_1 callW.eq_1 callvA.eq_1 retV.eq_1 rsOK.eq_1 wrL.eq_1 wrS.eq_1 wrLoc.eq_1 wrSO.eq_1 wrIx.eq_1 wrSt.eq_1 wrSt.eq_2 wrSt.eq_3 binV.eq_1 binV.eq_2 eqBV.eq_1 eqPV.eq_1 eqPV.eq_2 eqPV.eq_3 eqSV.eq_1 eqSV.eq_2 binI.eq_3 binI.eq_4 binI.eq_5 binI.eq_6 binI.eq_7 binI.eq_12 binI.eq_13 binI.eq_14 binI.eq_15 binI.eq_16 binI.eq_17 binS.eq_1 binS.eq_2 binS.eq_3 binS.eq_4 binS.eq_5 binS.eq_6 binS.eq_7 kk pv.eq_1 pv.eq_2 pv.eq_3 pv.eq_4 pv.eq_5 pv.eq_6 pv.eq_7 pv.eq_8 pv.eq_9 pv.eq_10 pv.eq_11 pv.eq_12 pv.eq_13 pv.eq_14 pv.eq_15 pv.eq_16 pv.eq_17 pv.eq_18 pv.eq_19 pv.eq_20 pv.eq_21 pv.eq_22 pv.eq_23 pv.eq_24 pv.eq_25 fill.eq_1 fill.eq_2
attribute [go_sem] ckV ckP xg St.keep St.keepV vwIf rdCells movV movW boxLW boxSW storeW callK St.drain
attribute [go_sem] Bool.true_or Bool.or_true Bool.or_false Bool.false_or
attribute [go_sem] bne_self_eq_false Bool.bne_true Bool.bne_false implies_true decide_true decide_false Bool.true_and Bool.and_true Bool.false_and Bool.and_false Bool.not_true Bool.not_false Bool.false_eq_true true_and List.length_cons List.length_nil List.map_cons List.map_nil List.all_nil List.all_cons List.drop_zero List.drop_succ_cons List.take_zero List.take_succ_cons Nat.zero_add List.cons_append List.nil_append List.getElem?_cons_zero List.getElem?_cons_succ
end
end Go.AB
end

section
namespace Go.AB
open Go
theorem VR.mono {w w' : World} {R R' : Nat → Nat} (hR : ∀ b, R b ≤ R' b) (hs : ∀ b k, k < R b → w'.cell? ⟨b, k, none⟩ = w.cell? ⟨b, k, none⟩) {a : AV} {v : Value} (h : VR w R a v) : VR w' R' a v := by
 induction h with
 | undef v => exact .undef v
 | bool b => exact .bool b
 | int k n => exact .int k n
 | str s => exact .str s
 | nilp => exact .nilp
 | ref b off => exact .ref b off
 | sp cs b off u hf hR' hc _ ih =>
  refine .sp cs b off u hf (Nat.le_trans hR' (hR b)) (fun j c hj => ?_) ih
  rw [hs b (off + j) (by have := (List.getElem?_eq_some_iff.1 hj).1; omega)]
  exact hc j c hj
 | slnil own sz => exact .slnil own sz
 | sle sz a cap => exact .sle sz a cap
 | sl own sz n cs b off cap u hf hl hR' hcap hc _ ih =>
  refine .sl own sz n cs b off cap u hf hl (Nat.le_trans hR' (hR b)) hcap (fun j c hj => ?_) ih
  rw [hs b (off + j) (by have := (List.getElem?_eq_some_iff.1 hj).1; omega)]
  exact hc j c hj
 | arr b off len cap => exact .arr b off len cap
 | arr0 b off => exact .arr0 b off
 | agg cs vs hf hl _ ih => exact .agg cs vs hf hl ih
 | tup cs vs hl _ ih => exact .tup cs vs hl ih
 | fn f first caps vf vc hl _ hl' _ ih ih' => exact .fn f first caps vf vc hl ih hl' ih'
 | nilf => exact .nilf
 | mp b => exact .mp b
 | one v h => exact .one v h
 | btag t => exact .btag t
 | nili => exact .nili
 | bb t n cs v _ h0 ih => exact .bb t n cs v ih h0
 | nilm => exact .nilm
 | when b a v _ ih => exact .when b a v ih
theorem Pres.R {G G' : Gh} {w w' : World} (h : Pres G w G' w') (hg : GoodW G w) : ∀ b, G.R b ≤ G'.R b := fun b => by
  rcases Nat.lt_or_ge b w.heap.size with hb | hb
  · exact h.mono b hb
  · rw [hg.newR b hb]; exact Nat.zero_le _
theorem Pres.cells {G G' : Gh} {w w' : World} (h : Pres G w G' w') (hg : GoodW G w) : ∀ b k, k < G.R b → w'.cell? ⟨b, k, none⟩ = w.cell? ⟨b, k, none⟩ := fun b k hk => by
  rcases Nat.lt_or_ge b w.heap.size with hb | hb
  · exact h.stable b k hb hk
  · rw [hg.newR b hb] at hk; omega
theorem Pres.vr {G G' : Gh} {w w' : World} (h : Pres G w G' w') (hg : GoodW G w) {a : AV} {v : Value} (hv : VR w G.R a v) : VR w' G'.R a v := hv.mono (h.R hg) (h.cells hg)
theorem Pres.refl (G : Gh) (w : World) : Pres G w G w := ⟨rfl, rfl, rfl, Nat.le_refl _, Nat.le_refl _, fun _ _ => Nat.le_refl _, fun _ _ _ _ => rfl, fun _ _ _ => rfl, fun _ _ h => ⟨h, rfl⟩, fun _ _ h => ⟨h, rfl⟩⟩
theorem Pres.trans {G₁ G₂ G₃ : Gh} {w₁ w₂ w₃ : World} (h : Pres G₁ w₁ G₂ w₂) (k : Pres G₂ w₂ G₃ w₃) : Pres G₁ w₁ G₃ w₃ where
  os := k.os.trans h.os
  tape := k.tape.trans h.tape
  output := k.output.trans h.output
  drawn := Nat.le_trans h.drawn k.drawn
  size := Nat.le_trans h.size k.size
  mono := fun b hb => Nat.le_trans (h.mono b hb) (k.mono b (Nat.lt_of_lt_of_le hb h.size))
  stable := fun b j hb hj => (k.stable b j (Nat.lt_of_lt_of_le hb h.size) (Nat.lt_of_lt_of_le hj (h.mono b hb))).trans (h.stable b j hb hj)
  frame := fun b hb ho => by
    refine (k.frame b (Nat.lt_of_lt_of_le hb h.size) ?_).trans (h.frame b hb ho)
    rcases ho with ho | ho
    · exact .inl (h.frameO b hb ho).1
    · exact .inr (h.noneO b hb ho).1
  frameO := fun b hb ho =>
    let ⟨o2, r2⟩ := h.frameO b hb ho
    let ⟨o3, r3⟩ := k.frameO b (Nat.lt_of_lt_of_le hb h.size) o2
    ⟨o3, r3.trans r2⟩
  noneO := fun b hb ho =>
    let ⟨o2, r2⟩ := h.noneO b hb ho
    let ⟨o3, r3⟩ := k.noneO b (Nat.lt_of_lt_of_le hb h.size) o2
    ⟨o3, r3.trans r2⟩
theorem OwnR.mono {G G' : Gh} {w w' : World} {o : Owner} {a : AV} {v : Value} (h : OwnR G w o a v) (hb : ∀ b, G.O b = o → G'.O b = o ∧ G'.R b = G.R b ∧ w'.heap[b]? = w.heap[b]?) : OwnR G' w' o a v := by
  unfold OwnR at *
  split
  · rename_i sz n cs
    intro base m cap hv hc
    obtain ⟨b, off, c, e, fz, h1, h2, h3, h4, h5, h6⟩ := h base m cap hv hc
    obtain ⟨k1, k2, k3⟩ := hb b h2
    exact ⟨b, off, c, e, fz, h1, k1, by rw [k2, h3], by rw [k3, h4], h5, h6⟩
  · rename_i e n cs
    intro base m cap hv hc
    obtain ⟨b, off, c, fz, h1, h2, h3, h4, h5, h6⟩ := h base m cap hv hc
    obtain ⟨k1, k2, k3⟩ := hb b h2
    exact ⟨b, off, c, fz, h1, k1, by rw [k2, h3], by rw [k3, h4], h5, h6⟩
  · trivial
theorem Fl.views {cs : List AV} (h : Fl cs) : Fl (views cs) := by
 intro c hc
 simp only [AB.views, List.mem_map] at hc
 obtain ⟨c', h1, rfl⟩ := hc
 have := h c' h1
 cases c' <;> simp_all [flatV, isV, AB.view]
theorem FlT.views {t : Nat} {cs : List AV} (h : FlT t cs) : Fl (AB.views cs) := by
  intro c hc
  simp only [AB.views, List.mem_map] at hc
  obtain ⟨c', h1, rfl⟩ := hc
  rcases h c' h1 with h | rfl
  · cases c' <;> simp_all [flatV, isV, AB.view]
  · rfl
theorem FlT.flat {t : Nat} {cs : List AV} (h : FlT t cs) (hv : AB.views cs = cs) : Fl cs := hv ▸ h.views
theorem FlT.left {t : Nat} {cs sp : List AV} (h : FlT t (cs ++ sp)) : FlT t cs := fun c hc => h c (List.mem_append_left _ hc)
theorem Fl.tag {cs : List AV} (h : Fl cs) (t : Nat) : FlT t cs := fun c hc => .inl (h c hc)
theorem FlT.sub {t : Nat} {cs : List AV} (h : FlT t cs) (off n : Nat) : FlT t (AB.sub cs off n) := fun c hc => h c (List.mem_of_mem_drop (List.mem_of_mem_take hc))
theorem FlT.drop {t : Nat} {cs : List AV} (h : FlT t cs) (off : Nat) : FlT t (cs.drop off) := fun c hc => h c (List.mem_of_mem_drop hc)
theorem Fl.sub {cs : List AV} (h : Fl cs) (off n : Nat) : Fl (sub cs off n) := fun c hc => h c (List.mem_of_mem_drop (List.mem_of_mem_take hc))
theorem Fl.drop {cs : List AV} (h : Fl cs) (off : Nat) : Fl (cs.drop off) := fun c hc => h c (List.mem_of_mem_drop hc)
theorem Fl.nil : Fl [] := fun c hc => by simp at hc
theorem OwnR.view (G : Gh) (w : World) (o : Owner) (a : AV) (v : Value) : OwnR G w o (view a) v := by
 cases a <;> first | trivial | (rename_i own sz n cs; simp [AB.view, OwnR])
theorem VR.view {w : World} {R : Nat → Nat} {a : AV} {v : Value} (h : VR w R a v) : VR w R (view a) v := by
 cases h with
 | slnil own sz => exact .slnil false sz
 | sle sz a cap => exact .sle sz a cap
 | sl own sz n cs b off cap u hf hl hR hcap hc hr => exact .sl false sz n cs b off cap u hf hl hR hcap hc hr
 | undef v => exact .undef v
 | bool b => exact .bool b
 | int k n => exact .int k n
 | str s => exact .str s
 | nilp => exact .nilp
 | ref b off => exact .ref b off
 | sp cs b off u hf hR hc hr => exact .sp cs b off u hf hR hc hr
 | arr b off len cap => exact .arr b off len cap
 | arr0 b off => exact .arr0 b off
 | agg cs vs hf hl hr => exact .agg cs vs hf hl hr
 | tup cs vs hl hr => exact .tup cs vs hl hr
 | fn f first caps vf vc hl hr hl' hr' => exact .fn f first caps vf vc hl hr hl' hr'
 | nilf => exact .nilf
 | mp b => exact .mp b
 | one v h => exact .one v h
 | btag t => exact .nilp
 | nili => exact .nili
 | bb t n cs v h h0 => 
  cases h with
  | slnil => exact .slnil false 1
  | sl _ _ _ _ b off cap u hf hl hR hcap hc hr => exact .sl false 1 n cs b off cap u hf hl hR hcap hc hr
 | nilm => exact .nilm
 | when b a v h => exact .when b a v h
theorem CellsR.mono {G G' : Gh} {w w' : World} {o : Nat → Owner} {cs : List AV} {c : Array Value} (h : CellsR G w o cs c) (hv : ∀ a v, VR w G.R a v → VR w' G'.R a v)
  (hb : ∀ b j, G.O b = o j → G'.O b = o j ∧ G'.R b = G.R b ∧ w'.heap[b]? = w.heap[b]?) : CellsR G' w' o cs c :=
 ⟨h.1, fun j x y hx hy => ⟨hv _ _ (h.2 j x y hx hy).1, (h.2 j x y hx hy).2.mono fun b => hb b j⟩⟩
theorem ValS.of_isV {G : Gh} {w : World} {e : List (Nat × AV)} {tmps : Array Value} {i : Nat} {a : AV} {v : Value} (h : isV a = true) : ValS G w e tmps i a v ↔ (VR w G.R a v ∧ OwnR G w (.slot i 0) a v) := by
 cases a <;> simp_all [isV, ValS]
theorem ValS.mk_view {G : Gh} {w : World} {e : List (Nat × AV)} {tmps : Array Value} {i : Nat} {a : AV} {v : Value} (h : isV a = true) (hv : VR w G.R a v) : ValS G w e tmps i (view a) v := by
 have h' : isV (view a) = true := by cases a <;> simp_all [isV, view]
 rw [ValS.of_isV h']
 exact ⟨hv.view, OwnR.view ..⟩
theorem ValS.vr {G : Gh} {w : World} {e : List (Nat × AV)} {tmps : Array Value} {i : Nat} {a : AV} {v : Value} (h : isV a = true) (hs : ValS G w e tmps i a v) : VR w G.R a v := ((ValS.of_isV h).1 hs).1
theorem ValS.frame {G G' : Gh} {w w' : World} {e e' : List (Nat × AV)} {tmps tmps' : Array Value} {i : Nat}
    (hv : ∀ a v, VR w G.R a v → VR w' G'.R a v)
    (hown : ∀ b, (∃ j, G.O b = .slot i j) ∨ G.O b = .loc i → G'.O b = G.O b ∧ G'.R b = G.R b ∧ w'.heap[b]? = w.heap[b]?)
    (hcell : ∀ b c j, G.O b = .loc i → G.O c = .cell b j → G'.O c = .cell b j ∧ G'.R c = G.R c ∧ w'.heap[c]? = w.heap[c]?) :
    ∀ (a : AV) (v : Value) (_ : ∀ d, holdsLp a d → ∀ cs, look e' d = .loc cs → ∃ cs', look e d = .loc cs' ∧ tmps'[d]? = tmps[d]?)
      (_ : ValS G w e tmps i a v), ValS G' w' e' tmps' i a v
  | .loc cs, v, _, h => by
    obtain ⟨b, c, t, h1, h2, h3, h4, h5, h6⟩ := h
    obtain ⟨k1, k2, k3⟩ := hown b (.inr h2)
    exact ⟨b, c, t, h1, k1.trans h2, k2.trans h3, k3.trans h4, h5.mono hv fun c j hc => hcell b c j h2 hc, h6⟩
  | .lp d off, v, hlp, h => by
    obtain ⟨b, h3, h4⟩ := h
    refine ⟨b, h3, fun cs hcs => ?_⟩
    obtain ⟨cs', h1, h2⟩ := hlp d rfl cs hcs
    exact h2.trans (h4 cs' h1)
  | .tup vs, v, _, h => by
    obtain ⟨ys, h1, h2⟩ := h
    exact ⟨ys, h1, h2.mono hv fun b j hb => by
      obtain ⟨k1, k2, k3⟩ := hown b (.inl ⟨_, hb⟩)
      exact ⟨k1.trans hb, k2, k3⟩⟩
  | .when b a, v, hlp, h => ⟨fun hb => ValS.frame hv hown hcell a v hlp (h.1 hb), h.2⟩
  | .us sz n cs, v, _, h => by
    rcases h with h | ⟨b, cap, c, t, sp, h1, h2, h3, h4, h5, h6, h7, h8, h9, h10, h11⟩
    · exact .inl h
    · obtain ⟨k1, k2, k3⟩ := hown b (.inl ⟨_, h4⟩)
      exact .inr ⟨b, cap, c, t, sp, h1, h2, h3, k1.trans h4, k2.trans h5, k3.trans h6, h7, h8, h9, fun j x u hx hu => hv _ _ (h10 j x u hx hu), h11⟩
  | .undef, v, _, h | .bool _, v, _, h | .int _ _, v, _, h | .str _, v, _, h | .nilp, v, _, h | .ref _ _, v, _, h | .sp _, v, _, h | .sl _ _ _ _, v, _, h | .arr _ _ _ _, v, _, h | .agg _, v, _, h
  | .fn _ _ _, v, _, h | .nilf, v, _, h | .mp _, v, _, h | .nilm, v, _, h | .one, v, _, h | .btag _, v, _, h | .nili, v, _, h | .bb _ _ _, v, _, h => by
    refine ⟨hv _ _ h.1, h.2.mono fun b hb => ?_⟩
    obtain ⟨k1, k2, k3⟩ := hown b (.inl ⟨_, hb⟩)
    exact ⟨k1.trans hb, k2, k3⟩
theorem look_cons (j i : Nat) (a : AV) (l : List (Nat × AV)) : look ((j, a) :: l) i = if j = i then a else look l i := by
  show (bif j == i then a else look l i) = _
  by_cases h : j = i
  · simp [h]
  · have : (j == i) = false := by simpa using h
    simp [this, h]
theorem Inv.put {G G' : Gh} {n : Nat} {D : List Deferred} {σ : St} {s' : Store} {lp' : List (Nat × Nat)} {a : Act} {w w' : World} (h : Inv G n D σ a w) (d : Option Nat) (hd : ∀ i, d = some i → i < n) (av : AV) (v : Value)
    (hgood : GoodW G' w') (hpres : Pres G w G' w') (hst : StoreR G' w' s')
    (hlp : ∀ x ∈ σ.lp, x ∈ lp') (hlpn : ∀ i t, d = some i → holdsLp av t → (i, t) ∈ lp')
    (hfree : ∀ i t, d = some i → (∃ cs, av = .loc cs) → (t, i) ∉ σ.lp)
    (hown : ∀ i b, d ≠ some i → (∃ j, G.O b = .slot i j) ∨ G.O b = .loc i → G'.O b = G.O b ∧ G'.R b = G.R b ∧ w'.heap[b]? = w.heap[b]?)
    (hcell : ∀ i b c j, d ≠ some i → G.O b = .loc i → G.O c = .cell b j → G'.O c = .cell b j ∧ G'.R c = G.R c ∧ w'.heap[c]? = w.heap[c]?)
    (hnew : ∀ i, d = some i → ValS G' w' ((σ.put d av).e) (a.put d v).tmps i av v) :
    Inv G' n D { (σ.put d av) with s := s', lp := lp' } (a.put d v) w' := by
  cases d with
  | none =>
    refine ⟨hgood, hst, h.size, fun i u hu => ?_, h.dom, fun i t ht => hlp _ (h.lps i t ht), h.def0⟩
    exact ValS.frame (fun _ _ hv => hpres.vr h.good hv) (fun b => hown i b (by simp)) (fun b c j => hcell i b c j (by simp)) _ _ (fun t _ cs hcs => ⟨cs, hcs, rfl⟩) (h.slots i u hu)
  | some d =>
    refine ⟨hgood, hst, by simp [Act.put, h.size], fun i u hu => ?_, fun i hi => ?_, fun i t ht => ?_, h.def0⟩
    · by_cases hid : d = i
      · subst hid
        have hu' : u = v := by
          have hlt : d < a.tmps.size := by rw [h.size]; exact hd d rfl
          simp [Act.put, hlt] at hu
          exact hu.symm
        subst hu'
        have : look (σ.put (some d) av).e d = av := by simp [St.put, look_cons]
        show ValS G' w' (σ.put (some d) av).e _ d (look (σ.put (some d) av).e d) u
        rw [this]
        exact hnew d rfl
      · have hne : (some d : Option Nat) ≠ some i := fun e => hid (Option.some.inj e)
        have hu' : a.tmps[i]? = some u := by simpa [Act.put, Array.getElem?_setIfInBounds_ne hid] using hu
        have : look (σ.put (some d) av).e i = look σ.e i := by simp [St.put, look_cons, hid]
        show ValS G' w' (σ.put (some d) av).e _ i (look (σ.put (some d) av).e i) u
        rw [this]
        refine ValS.frame (fun _ _ hv => hpres.vr h.good hv) (fun b => hown i b hne) (fun b c j => hcell i b c j hne) _ _ (fun t ht cs hcs => ?_) (h.slots i u hu')
        have hmem := h.lps i t ht
        by_cases hdt : d = t
        · subst hdt
          simp only [St.put, look_cons, if_true] at hcs
          exact absurd hmem (hfree d i rfl ⟨cs, hcs⟩)
        · refine ⟨cs, by simpa [St.put, look_cons, hdt] using hcs, ?_⟩
          simp [Act.put, Array.getElem?_setIfInBounds_ne hdt]
    · have : d ≠ i := by have := hd d rfl; omega
      simp [St.put, look_cons, this, h.dom i hi]
    · by_cases hid : d = i
      · subst hid
        simp only [St.put, look_cons, if_true] at ht
        exact hlpn d t rfl ht
      · simp only [St.put, look_cons, hid, if_false] at ht
        exact hlp _ (h.lps i t ht)
end Go.AB
end

section
namespace Go.AB
open Go
def cR : Value → AV → Bool
 | .bool a, .bool b => a == b
 | .int k n, .int k' m => decide (k = k') && n == m
 | .string s, .str t => s.data.toList == t
 | .pointer none, .nilp => true
 | .slice none 0 0, .sl _ _ 0 [] => true
 | .slice none 0 0, .arr _ _ 0 0 => true
 | .slice none 0 0, .bb _ 0 [] => true
 | .map none, .nilm => true
 | .nilFunc, .nilf => true
 | .nilIface, .nili => true
 | _, _ => false
def cRs : List Value → List AV → Bool
 | [], [] => true
 | v :: vs, a :: as => cR v a && cRs vs as
 | _, _ => false
def chkX : Operand → IX → Bool
 | .tmp t, .t i => t == i
 | .const (.agg vs), .c (.agg cs) => cRs vs.toList cs
 | .const v, .c a => cR v a
 | .func f, .c (.fn g [] []) => f == g
 | _, _ => false
def chkXs : List Operand → List IX → Bool
 | [], [] => true
 | o :: os, x :: xs => chkX o x && chkXs os xs
 | _, _ => false
def chkO : Option Operand → Option IX → Bool
 | none, none => true
 | some o, some x => chkX o x
 | _, _ => false
section
variable (P : Program)
def sizeIs (t : TypeId) (n : Nat) : Bool := match P.info? t with
 | some i => i.size == n
 | none => false
def bytesIs (t : TypeId) (n : Nat) : Bool := match P.info? t with
 | some i => i.bytes == n
 | none => false
def aggIs (t : TypeId) (multi : Bool) : Bool := match P.underlying t with
 | some (.struct _) | some (.array _ _) => multi
 | some _ => !multi
 | none => false
def zeroIs (t : TypeId) (z : List AV) : Bool := match P.info? t with
 | some i => (match i.zero with
  | some v => cRs v.cells.toList z && i.size == z.length
  | none => false)
 | none => false
def elemOfSl (t : TypeId) : Option TypeId := match P.underlying t with
 | some (.slice e) => some e
 | _ => none
def partsS (fs : Array Field) : List (Nat × Operand) → List (Nat × Nat × IX) → Bool
 | [], [] => true
 | (i, o) :: r, (off, n, x) :: s => (match fs[i]? with
  | some f => f.offset == off && sizeIs P f.type n
  | none => false) && chkX o x && partsS fs r s
 | _, _ => false
def partsA (sz : Nat) : List (Nat × Operand) → List (Nat × Nat × IX) → Bool
 | [], [] => true
 | (i, o) :: r, (off, n, x) :: s => i * sz == off && n == sz && chkX o x && partsA sz r s
 | _, _ => false
def intT (t : TypeId) : Bool := match P.underlying t with
 | some (.int _) => true
 | _ => false
def boolT (t : TypeId) : Bool := match P.underlying t with
 | some .bool => true
 | _ => false
def strT (t : TypeId) : Bool := match P.underlying t with
 | some .string => true
 | _ => false
def ptrT (t : TypeId) : Bool := match P.underlying t with
 | some (.pointer e) => (P.info? e).isSome
 | _ => false
def zeroLen (e : TypeId) (sz : Nat) : Bool := match P.info? e with
 | some i => (match i.zero with
  | some v => v.cells.size == sz && v.cells.toList.all Value.oneCell'
  | none => false)
 | none => false
def asB (b : Builtin) (c : Call) : Option (List Operand × List TypeId) := match c.callee with
 | .builtin b' => if b' = b then some (c.args.toList, c.argTypes.toList) else none
 | _ => none
def lenT (t : TypeId) (cls : Nat) : Bool := match P.underlying t with
 | some (.slice _) => cls == 0
 | some .string => cls == 1
 | some (.map _ _) => cls == 2
 | _ => false
def arrLen (t : TypeId) (n : Nat) : Bool := match P.underlying t with
 | some (.array m _) => n == m
 | _ => false
def keyT (t : TypeId) : KeyK → Bool
 | .int k => (match P.underlying t with | some (.int k') => kEq k k' | _ => false)
 | .str => (match P.underlying t with | some .string => true | _ => false)
 | .bool => (match P.underlying t with | some .bool => true | _ => false)
 | .bytes n => (match P.underlying t with
  | some (.array m e) => m == n && (match P.underlying e with | some (.int .u8) => true | _ => false) && sizeIs P e 1
  | _ => false)
def zeroAV (t : TypeId) (z : AV) : Bool := match P.info? t with
 | some i => (match i.zero with
  | some v => (match z, v with
   | .agg cs, .agg vs => cRs vs.toList cs
   | z, v => cR v z)
  | none => false)
 | none => false
def fieldsInt : List Field → Nat → Bool
 | [], _ => true
 | f :: r, k => f.name != "_" && f.offset == k && intT P f.type && aggIs P f.type false && fieldsInt r (k + 1)
def structInts (t : TypeId) (n : Nat) : Bool := match P.underlying t with
 | some (.struct fs) => fieldsInt P fs.toList 0 && fs.size == n && !P.stoodInHeld t && !P.eqGuardType P.depth t
 | _ => false
def chkOp (op : Op) (_ty : TypeId) (o : IOp) : Bool :=
 match o, op with
 | .mov _ x, .move y => chkX y x
 | .mov _ x, .assign y => chkX y x
 | .pick c x y, .pick c' x' y' => chkX c' c && chkX x' x && chkX y' y
 | .allocL z, .alloc t => zeroIs P t z
 | .allocS z, .alloc t => zeroIs P t z
 | .boxL n x, .box t y => sizeIs P t n && chkX y x
 | .boxS n x, .box t y => sizeIs P t n && chkX y x
 | .build z ps, .build t qs => zeroIs P t z && (match P.underlying t with
  | some (.struct fs) => partsS P fs qs.toList ps && fs.all fun f => (P.info? f.type).isSome
  | some (.array _ e) => (match P.info? e with
   | some i => partsA i.size qs.toList ps
   | none => false)
  | _ => false)
 | .buildSl sz n z ps, .buildSlice t m qs => n == m && (match elemOfSl P t with
  | some e => sizeIs P e sz && decide (0 < sz) && partsA sz qs.toList ps && decide (n * sz ≤ 2 ^ 24) && (match P.info? e with
   | some i => (match i.zero with
    | some v => cRs ((List.replicate n v.cells.toList).flatten) z && v.cells.size == sz
    | none => false)
   | none => false)
  | none => false)
 | .loadI _ x, .load t y => sizeIs P t 1 && aggIs P t false && chkX y x
 | .loadR z multi x, .load t y => sizeIs P t z.length && aggIs P t multi && (multi || z.length == 1) && chkX y x
 | .lookup kk z ok x k, .lookup t y j ok' => chkX y x && chkX j k && ok == ok' && (match P.underlying t with
  | some (.map kt et) => keyT P kt kk && zeroAV P et z
  | _ => false)
 | .mapUpdate kk x k v, .mapUpdate t y j u => chkX y x && chkX j k && chkX u v && (match P.underlying t with
  | some (.map kt _) => keyT P kt kk
  | _ => false)
 | .movT x, .move y => chkX y x
 | .movT x, .assign y => chkX y x
 | .cvtRow (.t i), .convert s t y => chkX y (.t i) && s == t && (match P.underlying s with
  | some (.slice e) => (match P.underlying e with | some (.int .u8) => true | _ => false)
  | _ => false)
 | .load n multi x, .load t y => sizeIs P t n && aggIs P t multi && (multi || n == 1) && chkX y x
 | .store n p v, .store t q u => sizeIs P t n && chkX q p && chkX u v
 | .nilCheck x, .nilCheck y => chkX y x
 | .bin bo x y, .binOp b _ u v _ => decide (bo = b) && chkX u x && chkX v y
 | .eqB ne x y, .binOp b t u v _ => decide (b = if ne then .neq else .eql) && chkX u x && chkX v y && boolT P t
 | .eqP ne x y, .binOp b t u v _ => decide (b = if ne then .neq else .eql) && chkX u x && chkX v y && ptrT P t
 | .eqS ne x y, .binOp b t u v _ => decide (b = if ne then .neq else .eql) && chkX u x && chkX v y && (elemOfSl P t).isSome
 | .un uo x, .unOp u _ y => decide (uo = u) && chkX y x
 | .cvtInt k x, .convert s t y => chkX y x && (match P.underlying s, P.underlying t with
  | some (.int _), some (.int k') => decide (k = k')
  | _, _ => false)
 | .cvtStr x, .convert s t y => chkX y x && (match P.underlying s, P.underlying t with
  | some (.slice e), some .string => (match P.underlying e with | some (.int .u8) => true | _ => false)
  | _, _ => false)
 | .cvtBytes x, .convert s t y => chkX y x && (match P.underlying s, P.underlying t with
  | some .string, some (.slice e) => (match P.underlying e with | some (.int .u8) => true | _ => false)
  | _, _ => false)
 | .cvtId x, .convert s t y => chkX y x && (match P.underlying s, P.underlying t with
  | some .string, some .string => true
  | _, _ => false)
 | .field n multi off x, .field t y i => chkX y x && (match P.underlying t with
  | some (.struct fs) => (match fs[i]? with
   | some f => f.offset == off && sizeIs P f.type n && aggIs P f.type multi && (multi || n == 1)
   | none => false)
  | _ => false)
 | .index n multi len x i, .index t y j => chkX y x && chkX j i && (match P.underlying t with
  | some (.array l e) => l == len && sizeIs P e n && aggIs P e multi && (multi || n == 1)
  | _ => false)
 | .sindex x i, .index t y j => chkX y x && chkX j i && strT P t
 | .fieldAddr off x, .fieldAddr t y i => chkX y x && (match P.underlying t with
  | some (.struct fs) => (match fs[i]? with
   | some f => f.offset == off && (match P.info? f.type with | some j => decide (0 < j.size) | none => false)
   | none => false)
  | _ => false)
 | .indexAddr z x i, .indexAddr t y j => chkX y x && chkX j i && (match elemOfSl P t with
  | some e => sizeIs P e z.length
  | none => false)
 | .aindexAddr sz len x i, .indexAddr t y j => chkX y x && chkX j i && (match P.underlying t with
  | some (.array l e) => l == len && sizeIs P e sz
  | _ => false)
 | .slice sz x lo hi mx, .slice t y l h m => chkX y x && chkO l lo && chkO h hi && chkO m mx && (match elemOfSl P t with
  | some e => sizeIs P e sz
  | none => false)
 | .sslice x lo hi, .slice t y l h none => chkX y x && chkO l lo && chkO h hi && strT P t
 | .extract x k, .extract y j => chkX y x && k == j
 | .len cls x, .call c => (match asB .len c with
  | some (y :: _, t :: _) => chkX y x && lenT P t cls
  | _ => false)
 | .alen n, .call c => (match asB .len c with
  | some (_ :: _, t :: _) => arrLen P t n
  | _ => false)
 | .cap x, .call c => (match asB .cap c with
  | some (y :: _, t :: _) => chkX y x && (elemOfSl P t).isSome
  | _ => false)
 | .minmax true xs, .call c => (match asB .max c with
  | some (ys, _) => chkXs ys xs
  | _ => false)
 | .minmax false xs, .call c => (match asB .min c with
  | some (ys, _) => chkXs ys xs
  | _ => false)
 | .append sz by' x y, .call c => (match asB .append c with
  | some ([u, v], [t, t']) => chkX u x && chkX v y && (match elemOfSl P t with
   | some e => sizeIs P e sz && bytesIs P e by' && decide (0 < sz) && decide (0 < by') && zeroLen P e sz && ((elemOfSl P t').isSome || strT P t')
   | none => false)
  | _ => false)
 | .makeSl sz by' z l c, .makeSlice t l' c' => chkX l' l && chkX c' c && (match elemOfSl P t with
  | some e => sizeIs P e sz && bytesIs P e by' && zeroIs P e z && decide (0 < sz) && decide (0 < by')
  | none => false)
 | .makeOw sz by' c, .makeSlice t l' c' => (match l' with | .const (.int .i64 0) => true | _ => false) && chkX c' c && (match elemOfSl P t with
  | some e => sizeIs P e sz && bytesIs P e by' && zeroLen P e sz && decide (0 < sz) && decide (0 < by')
  | none => false)
 | .makeMap, .makeMap _ none => true
 | .call f args, .call c => (match c.callee with
  | .value (.func g) => f == g && chkXs c.args.toList args && (match P.funcs[f]? with
   | some fn => fn.name != "runtime.NumGoroutine" && fn.body.isSome
   | none => false)
  | _ => false)
 | .callv x args, .call c => (match c.callee with
  | .value y => chkX y x && chkXs c.args.toList args
  | _ => false)
 | .makeFn f a b, .makeFunc (.func g) c d => f == g && chkXs c.toList a && chkXs d.toList b
 | .buildSlA sz n z ps, .buildSlice t m qs => n == m && (match elemOfSl P t with
  | some e => sizeIs P e sz && decide (0 < sz) && partsA sz qs.toList ps && decide (n * sz ≤ 2 ^ 24) && (match P.info? e with
   | some i => (match i.zero with
    | some v => cRs ((List.replicate n v.cells.toList).flatten) z && v.cells.size == sz
    | none => false)
   | none => false)
  | none => false)
 | .appendA sz by' z x y, .call c => (match asB .append c with
  | some ([u, v], [t, t']) => chkX u x && chkX v y && (match elemOfSl P t with
   | some e => sizeIs P e sz && bytesIs P e by' && decide (0 < sz) && decide (0 < by') && zeroLen P e sz && zeroIs P e z && ((elemOfSl P t').isSome || strT P t')
   | none => false)
  | _ => false)
 | .appendZ sz by' z x y, .call c => (match asB .append c with
  | some ([u, v], [t, t']) => chkX u x && chkX v y && intT P t' && (match elemOfSl P t with
   | some e => sizeIs P e sz && bytesIs P e by' && decide (0 < sz) && decide (0 < by') && zeroIs P e z
   | none => false)
  | _ => false)
 | .copyA sz x y, .call c => (match asB .copy c with
  | some ([u, v], [t, _]) => chkX u x && chkX v y && (match elemOfSl P t with
   | some e => sizeIs P e sz
   | none => false)
  | _ => false)
 | .clearA z x, .call c => (match asB .clear c with
  | some (u :: _, t :: _) => chkX u x && (match elemOfSl P t with
   | some e => zeroIs P e z
   | none => false)
  | _ => false)
 | .loadF _ _ x, .load t y => sizeIs P t 1 && aggIs P t false && chkX y x
 | .frz _ _ x, .move y => chkX y x
 | .frz _ _ x, .assign y => chkX y x
 | .loadD x, .load t y => (elemOfSl P t).isSome && sizeIs P t 1 && aggIs P t false && chkX y x
 | .loadE _ _ x, .load t y => (elemOfSl P t).isSome && sizeIs P t 1 && aggIs P t false && chkX y x
 | .eqN ne x, .binOp b t u v _ => decide (b = if ne then .neq else .eql) && chkX u x && (match v with | .const (.slice none 0 0) => true | _ => false) && (elemOfSl P t).isSome
 | .callU f i args, .call c => args.any (fun x => match x with | .t j => j == i | _ => false) && (match c.callee with
  | .value (.func g) => f == g && chkXs c.args.toList args && (match P.funcs[f]? with
   | some fn => fn.name != "runtime.NumGoroutine" && fn.body.isSome
   | none => false)
  | _ => false)
 | .eqA n ne x y, .binOp b t u v _ => decide (b = if ne then .neq else .eql) && chkX u x && chkX v y && structInts P t n
 | .eqF ne x, .binOp b t u v _ => decide (b = if ne then .neq else .eql) && chkX u x && (match v with | .const .nilFunc => true | _ => false) && (match P.underlying t with | some (.func _ _ _) => true | _ => false)
 | .eqI ne x, .binOp b t u v _ => decide (b = if ne then .neq else .eql) && chkX u x && (match v with | .const .nilIface => true | _ => false) && (match P.underlying t with | some (.interface _) => true | _ => false)
 | .cvtU x, .convert s t y => chkX y x && (match P.underlying s with | some (.pointer e) => (match P.info? e with | some j => j.size != 0 | none => false) | _ => false) && (match P.underlying t with | some .unsafePointer => true | _ => false)
 | .cvtF u x, .convert s t y => chkX y x && (match P.underlying s with | some .unsafePointer => true | _ => false) && (match P.underlying t with | some (.pointer e) => e == u && (P.info? e).isSome | _ => false)
 | .callX f x, .call c => (match c.callee with
  | .value (.func g) => f == g && chkXs c.args.toList [x]
  | _ => false)
 | .boxT n t j u x, .box t' y => t == t' && sizeIs P t n && chkX y x
 | .appendB u x y, .call c => (match asB .append c with
  | some ([p, q], [t, t']) => chkX p x && chkX q y && (match elemOfSl P t with
   | some e => sizeIs P e 1 && bytesIs P e 1 && zeroLen P e 1 && ((elemOfSl P t').isSome || strT P t') && e == u
   | none => false)
  | _ => false)
 | .storeN _ n p v, .store t q u => sizeIs P t n && chkX q p && chkX u v
 | .boxN _ n x, .box t y => sizeIs P t n && chkX y x
 | .ovl f x y, .call c => (match c.callee with
  | .value (.func g) => f == g && chkXs c.args.toList [x, y]
  | _ => false)
 | _, _ => false
def chkG (ops : Array Oper) : Option (Nat × Bool) → Option (Nat × Bool) → Bool
 | none, none => true
 | some (j, w), some (t, w') => w == w' && ((ops[j]?).bind (·.dst)) == some t
 | _, _ => false
def dstOK (n : Nat) : Option Nat → Bool
 | none => true
 | some d => decide (d < n)
def chkOper (n : Nat) (ops : Array Oper) (o : Oper) (o' : IOper) : Bool :=
 o.dst == o'.dst && dstOK n o'.dst && chkG ops o.guard o'.g && chkOp P o.op o.type o'.op
def chkOpers (n : Nat) (ops : Array Oper) : List Oper → List IOper → Bool
 | [], [] => true
 | o :: r, o' :: r' => chkOper P n ops o o' && chkOpers n ops r r'
 | _, _ => false
def oX : Option IX → List IX
 | some x => [x]
 | none => []
def opIX : IOp → List IX
 | .mov _ x | .boxL _ x | .boxS _ x | .load _ _ x | .nilCheck x | .un _ x | .cvtInt _ x | .cvtStr x | .cvtBytes x | .cvtId x | .field _ _ _ x | .fieldAddr _ x | .extract x _ | .len _ x | .cap x | .makeOw _ _ x | .loadR _ _ x | .cvtRow x | .movT x | .clearA _ x | .frz _ _ x | .loadF _ _ x | .loadD x | .eqN _ x | .eqF _ x | .eqI _ x | .cvtU x | .callX _ x | .cvtF _ x | .boxT _ _ _ _ x | .boxN _ _ x | .loadI _ x => [x]
 | .loadE _ j x => [j, x]
 | .pick c x y => [c, x, y]
 | .allocL _ | .allocS _ | .alen _ | .makeMap => []
 | .build _ ps | .buildSl _ _ _ ps | .buildSlA _ _ _ ps => ps.map fun p => p.2.2
 | .store _ x y | .bin _ x y | .eqB _ x y | .eqP _ x y | .eqS _ x y | .index _ _ _ x y | .sindex x y | .indexAddr _ x y | .aindexAddr _ _ x y | .append _ _ x y | .appendB _ x y | .makeSl _ _ _ x y | .lookup _ _ _ x y | .appendA _ _ _ x y | .appendZ _ _ _ x y | .copyA _ x y | .ovl _ x y | .storeN _ _ x y | .eqA _ _ x y => [x, y]
 | .slice _ x lo hi mx => x :: (oX lo ++ (oX hi ++ oX mx))
 | .sslice x lo hi => x :: (oX lo ++ oX hi)
 | .minmax _ xs => xs
 | .mapUpdate _ x y z => [x, y, z]
 | .call _ xs | .callU _ _ xs => xs
 | .callv x xs => x :: xs
 | .makeFn _ xs ys => xs ++ ys
def ixSlots : List IX → List Nat
 | [] => []
 | .t i :: r => i :: ixSlots r
 | .c _ :: r => ixSlots r
def gSlots : Option (Nat × Bool) → List Nat
 | some (t, _) => [t]
 | none => []
def slots (o : IOper) : List Nat := gSlots o.g ++ ixSlots (opIX o.op)
def notIn (d : Option Nat) (l : List Nat) : Bool := match d with
 | some d => !l.contains d
 | none => true
def drained (o : IOper) (i : Nat) : Bool := match o.op with
 | .mov true (.t j) => j == i
 | _ => false
def noDr (x y : IOper) : Bool := (slots y).all fun i => !drained x i
def ap (x y : IOper) : Bool := (noDr x y && noDr y x) && notIn x.dst (slots y) && notIn y.dst (slots x) && (match x.dst, y.dst with
 | some i, some j => i != j
 | _, _ => true)
def bindsOn (ops : Array Oper) (j i : Nat) : Bool := match ops[j]? with
 | some o => o.after.any fun e => Region.binds .any e && e.on == i
 | none => false
def chkS1 (ops : Array Oper) (q : Nat) : Bool := (List.range q).all fun k => match ops[k]? with
 | some o => o.after.all fun e => !Region.binds .any e || decide (e.on < k)
 | none => false
def chkS2 (ops : Array Oper) (q : Nat) : Bool := q == ops.size || (List.range q).all fun k => (List.range (q + 1)).any fun m => decide (k < m) && bindsOn ops m k
def apAt (iops : List IOper) (i j : Nat) : Bool := match iops[i]?, iops[j]? with
 | some x, some y => ap x y
 | _, _ => false
def chkS3 (ops : Array Oper) (q : Nat) (iops : List IOper) : Bool := (List.range q).all fun j => (List.range j).all fun i => bindsOn ops j i || apAt iops i j
def chkTail (ops : Array Oper) : Nat → Nat → Array Bool → Bool
 | 0, _, listed => (Region.ready .any ops listed).isEmpty
 | fuel + 1, k, listed => Region.ready .any ops listed == [k] && chkTail ops fuel (k + 1) (listed.setIfInBounds k true)
def upTo (size q : Nat) : Array Bool := (Array.range size).map fun i => decide (i < q)
def chkDr (ops : Array Oper) (q : Nat) (iops : List IOper) : Bool := decide (q ≤ ops.size) && (chkS1 ops q && (chkS2 ops q && (chkS3 ops q iops && chkTail ops (ops.size - q) q (upTo ops.size q))))
def tgt (o : IOper) : Option Nat := match o with
 | ⟨none, .store _ (.t c) _, none⟩ => some c
 | o => o.dst
def drained2 (o : IOper) (i : Nat) : Bool := match o.op with
 | .mov true (.t j) => j == i
 | .store _ _ (.t j) => j == i
 | .append _ _ (.t j) _ => j == i
 | .loadE _ (.t j) _ => j == i
 | _ => false
def noDr2 (x y : IOper) : Bool := (slots y).all fun i => !drained2 x i
def cOK (o : IOper) : Bool := (opIX o.op).all fun x => match x with
 | .c (.lp _ _) => false
 | .c (.when _ _) => false
 | _ => true
def ap2 (x y : IOper) : Bool := (cOK x && cOK y) && (noDr2 x y && noDr2 y x) && notIn (tgt x) (slots y) && notIn (tgt y) (slots x) && (match tgt x, tgt y with
 | some i, some j => i != j
 | _, _ => true)
def apAt2 (iops : List IOper) (i j : Nat) : Bool := match iops[i]?, iops[j]? with
 | some x, some y => ap2 x y
 | _, _ => false
def chkS3T (ops : Array Oper) (q : Nat) (iops : List IOper) : Bool := (List.range q).all fun j => (List.range j).all fun i => bindsOn ops j i || apAt2 iops i j
def locO : IOp → Bool
 | .store _ _ _ => true
 | .allocL _ => true
 | .append _ _ _ _ => true
 | .loadE _ _ _ => true
 | _ => false
def chkLoc (T : List Nat) (iops : List IOper) (q : Nat) : Bool := (iops.take q).all fun o => match o with
 | ⟨none, .store _ (.t c) _, none⟩ => T.contains c
 | ⟨some d, .allocL _, none⟩ => T.contains d
 | _ => true
def chkDrT (T : List Nat) (ops : Array Oper) (q : Nat) (iops : List IOper) : Bool := decide (q ≤ ops.size) && (chkS1 ops q && (chkS2 ops q && (chkS3T ops q iops && (chkLoc T iops q && chkTail ops (ops.size - q) q (upTo ops.size q)))))
abbrev Item := Nat × Nat × IOper
def maskOf (acc : List Nat) (o : Oper) : Nat := o.after.toList.foldl (fun s e => bif Region.binds .any e then s ||| (1 <<< e.on) ||| acc.getD e.on 0 else s) 0
def masks : List Oper → List Nat → List Nat
 | [], acc => acc
 | o :: r, acc => masks r (acc ++ [maskOf acc o])
def apB (y x : IOper) : Bool := noDr2 y x && notIn (tgt y) (slots x) && notIn x.dst (slots y) && (match tgt y, x.dst with
 | some i, some j => i != j
 | _, _ => true)
def kindB (k k' : Nat) (x y : IOper) : Bool := match k, k' with
 | 0, 0 | 0, 1 | 1, 0 | 1, 1 => ap2 x y
 | 1, 2 => apB x y
 | _, _ => false
def pairB (ops : Array Oper) (ms : List Nat) (x y : Item) : Bool := !bindsOn ops x.2.1 y.2.1 && (x.2.1 != y.2.1 && ((ms.getD y.2.1 0).testBit x.2.1 ||
 kindB x.1 y.1 x.2.2 y.2.2))
def pairsB (ops : Array Oper) (ms : List Nat) : List Item → Bool
 | [] => true
 | x :: r => r.all (pairB ops ms x) && pairsB ops ms r
def itemB (T : List Nat) (n : Nat) (ops : Array Oper) (x : Item) : Bool := (match ops[x.2.1]? with
 | some o => chkOper P n ops o x.2.2 && o.after.all fun e => !Region.binds .any e || (decide (e.on < ops.size) && e.on != x.2.1)
 | none => false) && (match x.2.2 with
 | ⟨none, .store _ (.t c) _, none⟩ => decide (2 ≤ x.1) || T.contains c
 | ⟨some d, .allocL _, none⟩ => T.contains d
 | _ => true)
def chkB (T : List Nat) (n : Nat) (ops : Array Oper) (l : List Item) : Bool := (l.length == ops.size && (List.range ops.size).all fun k => l.any fun x => x.2.1 == k) && (l.all (itemB P T n ops) && pairsB ops (masks ops.toList []) l)
def chkXo (ops : Array Oper) (deps : List (List Bool)) : Bool := deps.length == ops.size && (List.range ops.size).all fun j =>
 ((deps.getD j []).length == ops.size && (List.range ops.size).all fun i => !((deps.getD j []).getD i false) || bindsOn ops j i) && (match ops[j]? with
 | some o => o.after.all fun e => !Region.binds .any e || decide (e.on < j)
 | none => false)
def splitL : Code → Nat → Option (List Code × Code)
 | .seq (.label m) r, l => if m == l then some ([], r) else none
 | .seq s c, l => if (findLabel s l).isNone then (splitL c l).map fun p => (s :: p.1, p.2) else none
 | _, _ => none
def isSkip : IC → Bool
 | .skip => true
 | _ => false
def chk (n : Nat) : Code → IC → Bool
 | .skip, .skip => true
 | .region _ ops draw, .reg q iops _ => chkOpers P n ops ops.toList iops && (match q with
  | none => !draw
  | some q => !draw || chkDr ops q iops)
 | .region _ ops draw, .regT T q iops _ => chkOpers P n ops ops.toList iops && (!draw || chkDrT T ops q iops)
 | .region _ ops draw, .regB T l _ => draw && chkB P T n ops l
 | .region _ ops draw, .regX deps iops _ => draw && (chkOpers P n ops ops.toList iops && chkXo ops deps)
 | .seq a b, .seq a' b' => chk n a a' && chk n b b'
 | .seq a b, .join _ a' b' => chk n a a' && chk n b b'
 | .cond c a b, .cond c' a' b' => chkX c c' && chk n a a' && chk n b b'
 | .block i b, .block j b' => i == j && chk n b b'
 | .loop b, .loop _ b' => chk n b b'
 | .exit i, .exit j => i == j
 | .scope c, .scopeJ l _ a1 a2 a3 r' => match splitL c l with
  | some ([], r) => isSkip a1 && (isSkip a2 && (isSkip a3 && chk n r r'))
  | some ([s1], r) => chk n s1 a1 && (isSkip a2 && (isSkip a3 && chk n r r'))
  | some ([s1, s2], r) => chk n s1 a1 && (chk n s2 a2 && (isSkip a3 && chk n r r'))
  | some ([s1, s2, s3], r) => chk n s1 a1 && (chk n s2 a2 && (chk n s3 a3 && chk n r r'))
  | _ => false
 | .scope b, .scope b' => chk n b b'
 | .label l, .label l' => l == l'
 | .goto l, .goto l' => l == l'
 | .ret, .ret => true
 | _, .dead => true
 | _, _ => false
end
end Go.AB
end

section
namespace Go.AB
open Go
theorem cR_vr {v : Value} {a : AV} (h : cR v a = true) (w : World) (R : Nat → Nat) : VR w R a v := by
  unfold cR at h
  split at h
  · obtain rfl := beq_iff_eq.1 h; exact .bool _
  · rw [Bool.and_eq_true] at h; obtain ⟨h1, h2⟩ := h; obtain rfl := of_decide_eq_true h1; obtain rfl := beq_iff_eq.1 h2; exact .int _ _
  · obtain rfl := beq_iff_eq.1 h
    rename_i s
    have : ∀ b : ByteArray, b = ⟨b.data.toList.toArray⟩ := fun b => by cases b; simp
    conv => rhs; rw [this s]
    exact .str _
  · exact .nilp
  · exact .slnil _ _
  · exact .arr0 _ _
  · exact .bb _ _ _ _ (.slnil _ _) (fun _ => rfl)
  · exact .nilm
  · exact .nilf
  · exact .nili
  · cases h
theorem cR_isV {v : Value} {a : AV} (h : cR v a = true) : isV a = true := by
 unfold cR at h
 split at h <;> first | rfl | cases h
theorem cRs_get {vs : List Value} {as : List AV} (h : cRs vs as = true) : vs.length = as.length ∧ ∀ (j : Nat) (c : AV) (v : Value), as[j]? = some c → vs[j]? = some v → cR v c = true := by
 induction vs generalizing as with
 | nil => cases as with
  | nil => exact ⟨rfl, fun j c v hc => by simp at hc⟩
  | cons => simp [cRs] at h
 | cons v vs ih => cases as with
  | nil => simp [cRs] at h
  | cons a as =>
   simp only [cRs, Bool.and_eq_true] at h
   obtain ⟨h1, h2⟩ := ih h.2
   refine ⟨by simp [h1], fun j c u hc hu => ?_⟩
   cases j with
   | zero => simp at hc hu; subst hc; subst hu; exact h.1
   | succ j => exact h2 j c u (by simpa using hc) (by simpa using hu)
theorem cR_flat {v : Value} {a : AV} (h : cR v a = true) : flatV a = true := by
 unfold cR at h
 split at h <;> first | rfl | cases h
theorem cRs_fl : ∀ {vs : List Value} {as : List AV}, cRs vs as = true → Fl as
  | [], [], _ => Fl.nil
  | v :: vs, a :: as, h => by
    simp only [cRs, Bool.and_eq_true] at h
    intro c hc
    rcases List.mem_cons.1 hc with rfl | hc
    · exact cR_flat h.1
    · exact cRs_fl h.2 c hc
  | [], _ :: _, h => by simp [cRs] at h
  | _ :: _, [], h => by simp [cRs] at h
theorem cRs_agg {vs : Array Value} {cs : List AV} (h : cRs vs.toList cs = true) (w : World) (R : Nat → Nat) : VR w R (.agg cs) (.agg vs) := by
 obtain ⟨h1, h2⟩ := cRs_get h
 exact .agg cs vs (cRs_fl h) (by simpa using h1) fun j c v hc hv => cR_vr (h2 j c v hc (by simpa using hv)) w R
theorem cR_own {v : Value} {a : AV} (h : cR v a = true) (G : Gh) (w : World) (o : Owner) : OwnR G w o a v := by
  unfold cR at h
  split at h <;> first | (cases h; done) | trivial | skip
  · rename_i own sz
    cases own with
    | false => trivial
    | true => intro base m cap hv hc; injection hv with _ h2 h3; omega
  · intro base m cap hv hc; injection hv with _ h2 h3; omega
section
variable {P : Program} {G : Gh} {n : Nat} {D : List Deferred} {σ : St} {a : Act} {w : World}
def BR (G : Gh) (w : World) (σ : St) (a : Act) (x : IX) : AV → Value → Prop
 | .loc cs, v => ∃ i b c t, x = .t i ∧ look σ.e i = .loc cs ∧ a.tmps[i]? = some v ∧ v = .pointer (some ⟨b, 0, none⟩) ∧ G.O b = .loc i ∧ G.R b = 0 ∧ w.heap[b]? = some (.cells c t (0, 0)) ∧ CellsR G w (.cell b) cs c ∧ Fl cs
 | .lp d off, v => ∃ b, v = .pointer (some ⟨b, off, none⟩) ∧ ∀ cs, look σ.e d = .loc cs → a.tmps[d]? = some (.pointer (some ⟨b, 0, none⟩))
 | .when _ _, _ => True
 | .us _ _ _, _ => True
 | av, v => VR w G.R av v
def XR (G : Gh) (w : World) (σ : St) (a : Act) (x : IX) : AV → Value → Prop
 | .when b av, v => b = true → inner av = true → BR G w σ a x av v
 | av, v => BR G w σ a x av v
theorem BR.vr {x : IX} {av : AV} {v : Value} (h : isV av = true) (hv : BR G w σ a x av v) : VR w G.R av v := by
 cases av <;> simp_all [isV, BR]
theorem XR.br {x : IX} {av : AV} {v : Value} (hv : XR G w σ a x av v) : BR G w σ a x (unw true av) v := by
 cases av <;> try exact hv
 rename_i b av
 cases b with
 | false =>
  have : unw true (.when false av) = .undef := by simp [unw]
  rw [this]; exact VR.undef v
 | true =>
  cases hi : inner av with
  | false =>
   have : unw true (.when true av) = .undef := by simp [unw, hi]
   rw [this]; exact VR.undef v
  | true =>
   have : unw true (.when true av) = av := by simp [unw, hi]
   rw [this]; exact hv rfl hi
theorem XR.of_valS {i : Nat} (hi : a.tmps[i]? = some (a.eval (.tmp i))) {av : AV} (hl : look σ.e i = av) (h : ValS G w σ.e a.tmps i av (a.eval (.tmp i))) : XR G w σ a (.t i) av (a.eval (.tmp i)) := by
 have base : ∀ av : AV, (∀ cs, av = .loc cs → look σ.e i = .loc cs) → ValS G w σ.e a.tmps i av (a.eval (.tmp i)) → BR G w σ a (.t i) av (a.eval (.tmp i)) := by
  intro av hl h
  cases av with
  | loc cs =>
   obtain ⟨b, c, t, h1, h2, h3, h4, h5⟩ := h
   exact ⟨i, b, c, t, rfl, hl cs rfl, hi, h1, h2, h3, h4, h5⟩
  | lp d off => exact h
  | tup vs =>
   obtain ⟨ys, h1, h2⟩ := h
   rw [h1]
   exact VR.tup vs ys h2.1 fun j c u hc hu => (h2.2 j c u hc hu).1
  | «when» b av => trivial
  | us sz m cs => trivial
  | _ => exact h.1
 cases av with
 | «when» b av => exact fun hb hin => base av (fun cs hcs => by subst hcs; cases hin) (h.1 hb)
 | _ => exact base _ (fun cs hcs => by rw [hl, hcs]) h
theorem eval_some {i : Nat} (hi : i < a.tmps.size) : a.tmps[i]? = some (a.eval (.tmp i)) := by
 simp [Act.eval, Array.getD_eq_getD_getElem?, hi]
theorem XR.of_inv (h : Inv G n D σ a w) {o : Operand} {x : IX} (hx : chkX o x = true) : XR G w σ a x (σ.x x) (a.eval o) := by
  unfold chkX at hx
  split at hx
  · rename_i t i
    obtain rfl := beq_iff_eq.1 hx
    rcases Nat.lt_or_ge t n with ht | ht
    · have hs : t < a.tmps.size := by rw [h.size]; exact ht
      exact XR.of_valS (eval_some hs) rfl (h.slots t _ (eval_some hs))
    · have : σ.x (.t t) = .undef := h.dom t ht
      rw [this]; exact VR.undef _
  · exact cRs_agg hx w G.R
  · rename_i v av _
    have hv := cR_vr hx w G.R
    have hi := cR_isV hx
    show XR G w σ a _ av v
    cases av <;> first | exact hv | (simp [isV] at hi)
  · rename_i f g
    obtain rfl := beq_iff_eq.1 hx
    exact VR.fn f [] [] #[] #[] rfl (fun j c v hc => by simp at hc) rfl (fun j c v hc => by simp at hc)
  · cases hx
theorem BR.of_inv (h : Inv G n D σ a w) {o : Operand} {x : IX} (hx : chkX o x = true) : BR G w σ a x (xg true σ x) (a.eval o) := (XR.of_inv h hx).br
def NR (G : Gh) (w : World) (σ : St) (a : Act) (av : AV) (v : Value) : Prop :=
 match av with
 | .lp d off => ∃ b, v = .pointer (some ⟨b, off, none⟩) ∧ ∀ cs, look σ.e d = .loc cs → a.tmps[d]? = some (.pointer (some ⟨b, 0, none⟩))
 | av => isV av = true ∧ VR w G.R av v ∧ view av = av
end
end Go.AB
end

section
namespace Go.AB
open Go
def POK (r : PR) (av : AV) : Prop := r = .tot av ∨ ∃ c, r = .prt c av ∧ c
theorem POK.tot {a av : AV} (h : POK (.tot a) av) : av = a := by
  rcases h with h | ⟨c, h, _⟩
  · injection h with h; exact h.symm
  · cases h
theorem POK.prt {c : Prop} {a av : AV} (h : POK (.prt c a) av) : av = a ∧ c := by
  rcases h with h | ⟨c', h, hc⟩
  · cases h
  · injection h with h1 h2; exact ⟨h2.symm, h1 ▸ hc⟩
theorem POK.no {av : AV} (h : POK .no av) : False := by
 rcases h with h | ⟨c', h, hc⟩ <;> cases h
theorem isV_view {a : AV} (h : isV a = true) : isV (view a) = true := by cases a <;> simp_all [isV, view]
theorem view_view (a : AV) : view (view a) = view a := by cases a <;> rfl
section
variable {P : Program} {G : Gh} {n : Nat} {D : List Deferred} {σ : St} {a : Act} {w : World}
theorem NR.view {av : AV} {v : Value} (hi : isV av = true) (h : VR w G.R av v) : NR G w σ a (view av) v := by
 have : isV (AB.view av) = true ∧ VR w G.R (AB.view av) v ∧ AB.view (AB.view av) = AB.view av := ⟨isV_view hi, h.view, view_view _⟩
 cases av <;> first | exact this | (simp [isV] at hi)
theorem NR.mk {av : AV} {v : Value} (hi : isV av = true) (h : VR w G.R av v) (hv : AB.view av = av) : NR G w σ a av v := hv ▸ NR.view hi h
theorem VR.inv_bool {R : Nat → Nat} {b : Bool} {v : Value} (h : VR w R (.bool b) v) : v = .bool b := by cases h; rfl
theorem VR.inv_int {R : Nat → Nat} {k : IntKind} {m : Int} {v : Value} (h : VR w R (.int k m) v) : v = .int k m := by cases h; rfl
theorem VR.inv_str {R : Nat → Nat} {s : List UInt8} {v : Value} (h : VR w R (.str s) v) : v = .string ⟨s.toArray⟩ := by cases h; rfl
theorem VR.inv_nilp {R : Nat → Nat} {v : Value} (h : VR w R .nilp v) : v = .pointer none := by cases h; rfl
theorem VR.inv_ref {R : Nat → Nat} {b o : Nat} {v : Value} (h : VR w R (.ref b o) v) : v = .pointer (some ⟨b, o, none⟩) := by cases h; rfl
theorem VR.inv_arr' {R : Nat → Nat} {b o l c : Nat} {v : Value} (h : VR w R (.arr b o l c) v) : v = .slice (some ⟨b, o, none⟩) l c ∨ (l = 0 ∧ c = 0 ∧ v = .slice none 0 0) := by
 cases h with
 | arr => exact .inl rfl
 | arr0 => exact .inr ⟨rfl, rfl, rfl⟩
theorem VR.inv_arr {R : Nat → Nat} {b o l c : Nat} {v : Value} (h : VR w R (.arr b o l c) v) (hc : 0 < c) : v = .slice (some ⟨b, o, none⟩) l c := by
  rcases h.inv_arr' with h | ⟨_, h, _⟩
  · exact h
  · omega
theorem VR.inv_mp {R : Nat → Nat} {b : Nat} {v : Value} (h : VR w R (.mp b) v) : v = .map (some b) := by cases h; rfl
theorem VR.inv_nilm {R : Nat → Nat} {v : Value} (h : VR w R .nilm v) : v = .map none := by cases h; rfl
theorem VR.inv_agg {R : Nat → Nat} {cs : List AV} {v : Value} (h : VR w R (.agg cs) v) : ∃ vs : Array Value, v = .agg vs ∧ vs.size = cs.length ∧ (∀ (j : Nat) (c : AV) (u : Value), cs[j]? = some c → vs[j]? = some u → VR w R c u) ∧ Fl cs := by
 cases h with | agg _ vs hf hl hr => exact ⟨vs, rfl, hl, hr, hf⟩
theorem VR.inv_tup {R : Nat → Nat} {cs : List AV} {v : Value} (h : VR w R (.tup cs) v) : ∃ vs : Array Value, v = .tuple vs ∧ vs.size = cs.length ∧ ∀ (j : Nat) (c : AV) (u : Value), cs[j]? = some c → vs[j]? = some u → VR w R c u := by
 cases h with | tup _ vs hl hr => exact ⟨vs, rfl, hl, hr⟩
def At (w : World) (R : Nat → Nat) (b off : Nat) (cs : List AV) : Prop := ∃ u : Nat → Value, (∀ (j : Nat) (c : AV), cs[j]? = some c → w.cell? ⟨b, off + j, none⟩ = some (u j)) ∧ (∀ (j : Nat) (c : AV), cs[j]? = some c → VR w R c (u j)) ∧ Fl cs
theorem VR.inv_sp {R : Nat → Nat} {cs : List AV} {v : Value} (h : VR w R (.sp cs) v) : ∃ b off, v = .pointer (some ⟨b, off, none⟩) ∧ off + cs.length ≤ R b ∧ At w R b off cs := by
 cases h with | sp _ b off u hf hR hc hr => exact ⟨b, off, rfl, hR, u, hc, hr, hf⟩
def EmptySl (own : Bool) (v : Value) : Prop := v = .slice none 0 0 ∨ (own = false ∧ ∃ a cap, v = .slice (some a) 0 cap)
theorem EmptySl.own {v : Value} (h : EmptySl true v) : v = .slice none 0 0 := h.elim id fun h => by cases h.1
theorem EmptySl.ex {own : Bool} {v : Value} (h : EmptySl own v) : ∃ base cap, v = .slice base 0 cap := by
  rcases h with h | ⟨_, a, cap, h⟩
  · exact ⟨_, _, h⟩
  · exact ⟨_, _, h⟩
theorem VR.inv_sl {R : Nat → Nat} {own : Bool} {sz m : Nat} {cs : List AV} {v : Value} (h : VR w R (.sl own sz m cs) v) :
  (EmptySl own v ∧ m = 0 ∧ cs = []) ∨ ∃ b off cap, v = .slice (some ⟨b, off, none⟩) m cap ∧ cs.length = m * sz ∧ off + cs.length ≤ R b ∧ m ≤ cap ∧ At w R b off cs := by
 cases h with
 | slnil => exact .inl ⟨.inl rfl, rfl, rfl⟩
 | sle => exact .inl ⟨.inr ⟨rfl, _, _, rfl⟩, rfl, rfl⟩
 | sl _ _ _ _ b off cap u hf hl hR hcap hc hr => exact .inr ⟨b, off, cap, rfl, hl, hR, hcap, u, hc, hr, hf⟩
theorem VR.inv_fn {R : Nat → Nat} {f : Nat} {x y : List AV} {v : Value} (h : VR w R (.fn f x y) v) : ∃ vf vc : Array Value, v = .func (.func f) vf vc ∧ vf.size = x.length ∧ (∀ (j : Nat) (c : AV) (u : Value), x[j]? = some c → vf[j]? = some u → VR w R c u) ∧
  vc.size = y.length ∧ (∀ (j : Nat) (c : AV) (u : Value), y[j]? = some c → vc[j]? = some u → VR w R c u) := by
 cases h with | fn _ _ _ vf vc h1 h2 h3 h4 => exact ⟨vf, vc, rfl, h1, h2, h3, h4⟩
def runs (P : Program) (a : Act) (op : Op) (ty : TypeId) (w : World) (v : Value) : Prop :=
 ∀ (d : Option Tmp) (pos : String) (after : Array Edge) (g : Option (Nat × Bool)), (execOp a.eval ⟨d, op, ty, pos, after, g⟩).run P w = .ok (.value v) w
theorem pv_mov (h : Inv G n D σ a w) {op : Op} {ty : TypeId} {x : IX} (hc : chkOp P op ty (.mov false x) = true) {av : AV} (hv : POK (pv (.mov false x) (xg true σ) σ) av) :
    ∃ v, runs P a op ty w v ∧ NR G w σ a av v := by
  have key : ∀ y, chkX y x = true → NR G w σ a av (a.eval y) := fun y hy => by
    have hb := BR.of_inv h hy
    have hv' : POK (movV (xg true σ x)) av := hv
    unfold movV at hv'
    cases hi : isV (xg true σ x) with
    | false => rw [hi] at hv'; exact hv'.no.elim
    | true =>
      rw [hi] at hv'
      rw [hv'.tot]
      exact NR.view hi (hb.vr hi)
  cases op <;> first | (simp [chkOp] at hc; done) | skip
  · rename_i y
    exact ⟨a.eval y, fun _ _ _ _ => rfl, key y hc⟩
  · rename_i y
    exact ⟨a.eval y, fun _ _ _ _ => rfl, key y hc⟩
theorem gv_br {g : Bool} {x : IX} {v : Value} {p : Bool} (hg : g = true) (hx : XR G w σ a x (σ.x x) v) (h : gv1 (σ.x x) = some (g, p)) : v = .bool p := by
  subst hg
  generalize σ.x x = av at *
  unfold gv1 at h
  split at h
  · injection h with h; injection h with _ h; subst h; cases hx; rfl
  · injection h with h; injection h with h1 h2; subst h1; subst h2
    have := hx rfl rfl
    cases this; rfl
  · cases h
theorem gv2_br {g : Bool} {x : IX} {v : Value} {p : Bool} (hg : g = true) (hx : XR G w σ a x (σ.x x) v) (h : gv2 (σ.x x) = some (g, p)) : v = .bool p := by
  refine gv_br hg hx ?_
  unfold gv2 at h
  split at h
  · injection h with h; injection h with h1 _; rw [hg] at h1; cases h1
  · exact h
theorem pv_pick (h : Inv G n D σ a w) {op : Op} {ty : TypeId} {c x y : IX} (hc : chkOp P op ty (.pick c x y) = true) {av : AV} (hv : POK (pv (.pick c x y) (xg true σ) σ) av) :
    ∃ v, runs P a op ty w v ∧ NR G w σ a av v := by
  cases op <;> first | (simp [chkOp] at hc; done) | skip
  rename_i c' x' y'
  simp only [chkOp, Bool.and_eq_true] at hc
  have hbc := BR.of_inv h hc.1.1
  have hbx := XR.of_inv h hc.1.2
  have hby := XR.of_inv h hc.2
  have hv' : POK (pickV (σ.x x) (σ.x y) (xg true σ c)) av := hv
  generalize xg true σ c = cv at hbc hv'
  unfold pickV at hv'
  split at hv'
  · rename_i b
    have hcv : a.eval c' = .bool b := VR.inv_bool hbc
    unfold pickB at hv'
    split at hv'
    · rename_i g1 p g2 q hp hq
      rcases hv' with hv' | ⟨c1, hv', hc1⟩
      · cases hv'
      injection hv' with h1 h2
      subst h1 h2
      refine ⟨.bool (bif b then p else q), fun _ _ _ _ => ?_, NR.mk rfl (.bool _) rfl⟩
      cases b with
      | true =>
        have := gv2_br (hc1.1 rfl) hbx hp
        simp [execOp, hcv, asBool, this]
      | false =>
        have := gv2_br (hc1.2 rfl) hby hq
        simp [execOp, hcv, asBool, this]
    · exact hv'.no.elim
  · exact hv'.no.elim
theorem pv_un (h : Inv G n D σ a w) {op : Op} {ty : TypeId} {uo : UnOp} {x : IX} (hc : chkOp P op ty (.un uo x) = true) {av : AV} (hv : POK (pv (.un uo x) (xg true σ) σ) av) :
    ∃ v, runs P a op ty w v ∧ NR G w σ a av v := by
  cases op <;> first | (simp [chkOp] at hc; done) | skip
  rename_i u t y
  simp only [chkOp, Bool.and_eq_true, decide_eq_true_eq] at hc
  obtain ⟨rfl, hy⟩ := hc
  have hb := BR.of_inv h hy
  have hv' : POK (unV uo (xg true σ x)) av := hv
  generalize xg true σ x = xv at hb hv'
  unfold unV at hv'
  split at hv'
  · rename_i b
    have e : a.eval y = .bool b := VR.inv_bool hb
    rw [hv'.tot]
    exact ⟨.bool (!b), fun _ _ _ _ => by simp [execOp, e, Op.unary], NR.mk rfl (.bool _) rfl⟩
  · rename_i k m
    have e : a.eval y = .int k m := VR.inv_int hb
    rw [hv'.tot]
    exact ⟨.int k (k.wrap (0 - m)), fun _ _ _ _ => by simp [execOp, e, Op.unary, Op.intArith], NR.mk rfl (.int _ _) rfl⟩
  · exact hv'.no.elim
theorem pv_cvtInt (h : Inv G n D σ a w) {op : Op} {ty : TypeId} {k : IntKind} {x : IX} (hc : chkOp P op ty (.cvtInt k x) = true) {av : AV} (hv : POK (pv (.cvtInt k x) (xg true σ) σ) av) :
    ∃ v, runs P a op ty w v ∧ NR G w σ a av v := by
  cases op <;> first | (simp [chkOp] at hc; done) | skip
  rename_i s t y
  simp only [chkOp, Bool.and_eq_true] at hc
  obtain ⟨hy, hc2⟩ := hc
  split at hc2
  · rename_i k1 k2 hs ht
    have := of_decide_eq_true hc2
    subst this
    have hb := BR.of_inv h hy
    have hv' : POK (cvtIntV k (xg true σ x)) av := hv
    generalize xg true σ x = xv at hb hv'
    unfold cvtIntV at hv'
    split at hv'
    · rename_i k' m
      have e : a.eval y = .int k' m := VR.inv_int hb
      rw [hv'.tot]
      exact ⟨.int k (k.wrap m), fun _ _ _ _ => by simp [execOp, e, convert, underlying, hs, ht, Conv.intToInt], NR.mk rfl (.int _ _) rfl⟩
    · exact hv'.no.elim
  · cases hc2
theorem pv_cvtId (h : Inv G n D σ a w) {op : Op} {ty : TypeId} {x : IX} (hc : chkOp P op ty (.cvtId x) = true) {av : AV} (hv : POK (pv (.cvtId x) (xg true σ) σ) av) :
    ∃ v, runs P a op ty w v ∧ NR G w σ a av v := by
  cases op <;> first | (simp [chkOp] at hc; done) | skip
  rename_i s t y
  simp only [chkOp, Bool.and_eq_true] at hc
  obtain ⟨hy, hc2⟩ := hc
  split at hc2
  · rename_i hs ht
    have hb := BR.of_inv h hy
    have hv' : POK (cvtIdV (xg true σ x)) av := hv
    generalize xg true σ x = xv at hb hv'
    unfold cvtIdV at hv'
    split at hv'
    · rename_i m
      have e : a.eval y = .string ⟨m.toArray⟩ := VR.inv_str hb
      rw [hv'.tot]
      exact ⟨.string ⟨m.toArray⟩, fun _ _ _ _ => by simp [execOp, e, convert, underlying, hs, ht], NR.mk rfl (.str _) rfl⟩
    · exact hv'.no.elim
  · cases hc2
theorem pv_nilCheck (h : Inv G n D σ a w) {op : Op} {ty : TypeId} {x : IX} (hc : chkOp P op ty (.nilCheck x) = true) {av : AV} (hv : POK (pv (.nilCheck x) (xg true σ) σ) av) :
    ∃ v, runs P a op ty w v ∧ NR G w σ a av v := by
  cases op <;> first | (simp [chkOp] at hc; done) | skip
  rename_i y
  have hb := BR.of_inv h hc
  have hv' : POK (nilCheckV (xg true σ x)) av := hv
  generalize xg true σ x = xv at hb hv'
  unfold nilCheckV at hv'
  split at hv'
  · rename_i b o
    have e : a.eval y = .pointer (some ⟨b, o, none⟩) := VR.inv_ref hb
    rw [hv'.tot]
    exact ⟨_, fun _ _ _ _ => by simp [execOp, e], NR.mk rfl (.ref _ _) rfl⟩
  · exact hv'.no.elim
theorem pv_bin (h : Inv G n D σ a w) {op : Op} {ty : TypeId} {bo : BinOp} {x y : IX} (hc : chkOp P op ty (.bin bo x y) = true) {av : AV} (hv : POK (pv (.bin bo x y) (xg true σ) σ) av) :
    ∃ v, runs P a op ty w v ∧ NR G w σ a av v := by
  cases op <;> first | (simp [chkOp] at hc; done) | skip
  rename_i b t u v yt
  simp only [chkOp, Bool.and_eq_true, decide_eq_true_eq] at hc
  obtain ⟨⟨rfl, hx⟩, hy⟩ := hc
  have hbx := BR.of_inv h hx
  have hby := BR.of_inv h hy
  have hv' : POK (binV bo (xg true σ x) (xg true σ y)) av := hv
  generalize xg true σ x = xv at hbx hv'
  generalize xg true σ y = yv at hby hv'
  unfold binV at hv'
  split at hv'
  · rename_i k p k' q
    have e1 : a.eval u = .int k p := VR.inv_int hbx
    have e2 : a.eval v = .int k' q := VR.inv_int hby
    have fin : ∀ (V : AV) (r : Value), isV V = true → AB.view V = V → VR w G.R V r → POK (kk k k' (.tot V)) av → (k = k' → runs P a (.binOp bo t u v yt) ty w r) → ∃ v', runs P a (.binOp bo t u v yt) ty w v' ∧ NR G w σ a av v' := by
      intro V r h1 h2 h3 h4 h5
      unfold kk kEq at h4
      by_cases hk : k = k'
      · rw [decide_eq_true hk] at h4
        rw [h4.tot]
        exact ⟨r, h5 hk, NR.mk h1 h3 h2⟩
      · rw [decide_eq_false hk] at h4; exact h4.no.elim
    cases bo
    case shl =>
      obtain ⟨rfl, h0⟩ := POK.prt hv'
      exact ⟨_, fun _ _ _ _ => by simp [execOp, e1, e2, eqGuard, binOp, Op.shift, Int.not_lt.2 h0, wrapI], NR.mk rfl (.int _ _) rfl⟩
    case shr =>
      obtain ⟨rfl, h0⟩ := POK.prt hv'
      exact ⟨_, fun _ _ _ _ => by simp [execOp, e1, e2, eqGuard, binOp, Op.shift, Int.not_lt.2 h0], NR.mk rfl (.int _ _) rfl⟩
    case quo =>
      have hv'' : POK (kk k k' (.prt (q ≠ 0) (.int k (wrapI k (p.tdiv q))))) av := hv'
      unfold kk kEq at hv''
      by_cases hk : k = k'
      · rw [decide_eq_true hk] at hv''
        obtain ⟨rfl, h0⟩ := POK.prt hv''
        subst hk
        exact ⟨_, fun _ _ _ _ => by simp [execOp, e1, e2, eqGuard, binOp, Op.intDiv, h0, wrapI], NR.mk rfl (.int _ _) rfl⟩
      · rw [decide_eq_false hk] at hv''; exact hv''.no.elim
    case rem =>
      have hv'' : POK (kk k k' (.prt (q ≠ 0) (.int k (p.tmod q)))) av := hv'
      unfold kk kEq at hv''
      by_cases hk : k = k'
      · rw [decide_eq_true hk] at hv''
        obtain ⟨rfl, h0⟩ := POK.prt hv''
        subst hk
        exact ⟨_, fun _ _ _ _ => by simp [execOp, e1, e2, eqGuard, binOp, Op.intDiv, h0], NR.mk rfl (.int _ _) rfl⟩
      · rw [decide_eq_false hk] at hv''; exact hv''.no.elim
    case add => exact fin _ _ rfl rfl (.int _ _) hv' fun hk _ _ _ _ => by subst hk; simp [execOp, e1, e2, eqGuard, binOp, Op.intArith, wrapI]
    case sub => exact fin _ _ rfl rfl (.int _ _) hv' fun hk _ _ _ _ => by subst hk; simp [execOp, e1, e2, eqGuard, binOp, Op.intArith, wrapI]
    case mul => exact fin _ _ rfl rfl (.int _ _) hv' fun hk _ _ _ _ => by subst hk; simp [execOp, e1, e2, eqGuard, binOp, Op.intArith, wrapI]
    case and => exact fin _ _ rfl rfl (.int _ _) hv' fun hk _ _ _ _ => by subst hk; simp [execOp, e1, e2, eqGuard, binOp, Op.intBits]
    case or => exact fin _ _ rfl rfl (.int _ _) hv' fun hk _ _ _ _ => by subst hk; simp [execOp, e1, e2, eqGuard, binOp, Op.intBits]
    case xor => exact fin _ _ rfl rfl (.int _ _) hv' fun hk _ _ _ _ => by subst hk; simp [execOp, e1, e2, eqGuard, binOp, Op.intBits]
    case andNot => exact fin _ _ rfl rfl (.int _ _) hv' fun hk _ _ _ _ => by subst hk; simp [execOp, e1, e2, eqGuard, binOp, Op.intBits]
    case eql => exact fin _ _ rfl rfl (.bool _) hv' fun hk _ _ _ _ => by subst hk; simp [execOp, e1, e2, eqGuard, binOp, Op.intCmp]
    case neq => exact fin _ _ rfl rfl (.bool _) hv' fun hk _ _ _ _ => by subst hk; simp [execOp, e1, e2, eqGuard, binOp, Op.intCmp]
    case lss => exact fin _ _ rfl rfl (.bool _) hv' fun hk _ _ _ _ => by subst hk; simp [execOp, e1, e2, eqGuard, binOp, Op.intCmp]
    case leq => exact fin _ _ rfl rfl (.bool _) hv' fun hk _ _ _ _ => by subst hk; simp [execOp, e1, e2, eqGuard, binOp, Op.intCmp]
    case gtr => exact fin _ _ rfl rfl (.bool _) hv' fun hk _ _ _ _ => by subst hk; simp [execOp, e1, e2, eqGuard, binOp, Op.intCmp]
    case geq => exact fin _ _ rfl rfl (.bool _) hv' fun hk _ _ _ _ => by subst hk; simp [execOp, e1, e2, eqGuard, binOp, Op.intCmp]
  · rename_i p q
    have e1 : a.eval u = .string ⟨p.toArray⟩ := VR.inv_str hbx
    have e2 : a.eval v = .string ⟨q.toArray⟩ := VR.inv_str hby
    have tl : ∀ l : List UInt8, (ByteArray.mk l.toArray).toList = l := fun l => by rw [ByteArray.toList_eq]
    cases bo <;> first | exact (POK.no hv').elim | skip
    case add =>
      obtain ⟨rfl, h0⟩ := POK.prt hv'
      have h0' : p.length + q.length ≤ 9223372036854775807 := by
        have : ((p.length + q.length : Nat) : Int) ≤ 9223372036854775807 := h0
        omega
      refine ⟨.string ⟨(p ++ q).toArray⟩, fun _ _ _ _ => ?_, NR.mk rfl (.str _) rfl⟩
      have hr := run_string_add_sum (P := P) w ⟨p.toArray⟩ ⟨q.toArray⟩ (by simpa [ByteArray.size] using h0')
      rw [ByteArray.mk_append_mk] at hr
      simp [execOp, e1, e2, eqGuard, binOp, hr]
    all_goals
      rw [POK.tot hv']
      exact ⟨.bool _, fun _ _ _ _ => by simp [execOp, e1, e2, eqGuard, binOp, Op.stringOp, tl], NR.mk rfl (.bool _) rfl⟩
  · exact hv'.no.elim
theorem pv_eqB (h : Inv G n D σ a w) {op : Op} {ty : TypeId} {ne : Bool} {x y : IX} (hc : chkOp P op ty (.eqB ne x y) = true) {av : AV} (hv : POK (pv (.eqB ne x y) (xg true σ) σ) av) :
    ∃ v, runs P a op ty w v ∧ NR G w σ a av v := by
  cases op <;> first | (simp [chkOp] at hc; done) | skip
  rename_i b t u v yt
  simp only [chkOp, Bool.and_eq_true, decide_eq_true_eq] at hc
  obtain ⟨⟨⟨rfl, hx⟩, hy⟩, ht⟩ := hc
  have hbx := BR.of_inv h hx
  have hby := BR.of_inv h hy
  have hv' : POK (eqBV ne (xg true σ x) (xg true σ y)) av := hv
  generalize xg true σ x = xv at hbx hv'
  generalize xg true σ y = yv at hby hv'
  have htb : P.underlying t = some .bool := by
    unfold boolT at ht
    split at ht
    · assumption
    · cases ht
  unfold eqBV at hv'
  split at hv'
  · rename_i p q
    have e1 : a.eval u = .bool p := VR.inv_bool hbx
    have e2 : a.eval v = .bool q := VR.inv_bool hby
    rw [hv'.tot]
    refine ⟨.bool ((p == q) != ne), fun _ _ _ _ => ?_, NR.mk rfl (.bool _) rfl⟩
    cases ne <;> simp [execOp, e1, e2, eqGuard, binOp, run_equal_bool w t p q htb]
  · exact hv'.no.elim
theorem run_equalIn_nilp {w : World} (d : Nat) {t e : TypeId} (hte : P.underlying t = some (.pointer e)) (p q : Option Addr) (hpq : p = none ∨ q = none) :
    (Op.equalIn (d + 1) t (.pointer p) (.pointer q)).run P w = .ok (p.isNone && q.isNone) w := by
  rcases hpq with rfl | rfl
  · simp [Op.equalIn, run_underlying hte]
  · cases p <;> simp [Op.equalIn, run_underlying hte]
theorem run_equalIn_nilsl {w : World} (d : Nat) {t e : TypeId} (hte : P.underlying t = some (.slice e)) (b : Addr) (l c : Nat) :
  (Op.equalIn (d + 1) t (.slice (some b) l c) (.slice none 0 0)).run P w = .ok false w := by
 simp [Op.equalIn, run_underlying hte]
theorem pv_eqP (h : Inv G n D σ a w) {op : Op} {ty : TypeId} {ne : Bool} {x y : IX} (hc : chkOp P op ty (.eqP ne x y) = true) {av : AV} (hv : POK (pv (.eqP ne x y) (xg true σ) σ) av) :
    ∃ v, runs P a op ty w v ∧ NR G w σ a av v := by
  cases op <;> first | (simp [chkOp] at hc; done) | skip
  rename_i b t u v yt
  simp only [chkOp, Bool.and_eq_true, decide_eq_true_eq] at hc
  obtain ⟨⟨⟨rfl, hx⟩, hy⟩, ht⟩ := hc
  have hbx := BR.of_inv h hx
  have hby := BR.of_inv h hy
  have hv' : POK (eqPV ne (xg true σ x) (xg true σ y)) av := hv
  generalize xg true σ x = xv at hbx hv'
  generalize xg true σ y = yv at hby hv'
  have htb : ∃ e j, P.underlying t = some (.pointer e) ∧ P.info? e = some j := by
    unfold ptrT at ht
    split at ht
    · rename_i e he
      obtain ⟨j, hj⟩ := Option.isSome_iff_exists.1 ht
      exact ⟨e, j, he, hj⟩
    · cases ht
  obtain ⟨e, je, hte, hje⟩ := htb
  have eqn : ∀ p q : Option Addr, (p = none ∨ q = none) → (Op.equal t (.pointer p) (.pointer q)).run P w = .ok (p.isNone && q.isNone) w := by
    exact fun p q hpq => run_equalIn_nilp 9999 hte p q hpq
  have fin : ∀ p q : Option Addr, a.eval u = .pointer p → a.eval v = .pointer q → (p = none ∨ q = none) → runs P a (.binOp (if ne = true then .neq else .eql) t u v yt) ty w (.bool ((p.isNone && q.isNone) != ne)) := by
    intro p q e1 e2 hpq _ _ _ _
    cases ne <;> simp [execOp, e1, e2, eqGuard, binOp, eqn p q hpq]
  unfold eqPV at hv'
  split at hv'
  · rw [hv'.tot]
    refine ⟨_, fin _ _ (VR.inv_nilp hbx) (VR.inv_nilp hby) (.inl rfl), NR.mk rfl ?_ rfl⟩
    cases ne <;> exact .bool _
  · rw [hv'.tot]
    refine ⟨_, fin _ _ (VR.inv_ref hbx) (VR.inv_nilp hby) (.inr rfl), NR.mk rfl ?_ rfl⟩
    cases ne <;> exact .bool _
  · rw [hv'.tot]
    refine ⟨_, fin _ _ (VR.inv_nilp hbx) (VR.inv_ref hby) (.inl rfl), NR.mk rfl ?_ rfl⟩
    cases ne <;> exact .bool _
  · rename_i b o b' o'
    by_cases hbo : b = b' ∧ o = o'
    · obtain ⟨rfl, rfl⟩ := hbo
      simp only [beq_self_eq_true, Bool.and_self, cond_true] at hv'
      rw [hv'.tot]
      have e1 := VR.inv_ref hbx
      have e2 := VR.inv_ref hby
      have hq : (Op.equal t (.pointer (some ⟨b, o, none⟩)) (.pointer (some ⟨b, o, none⟩))).run P w = .ok true w := by
        have hd : ∀ d : Nat, (Op.equalIn (d + 1) t (.pointer (some ⟨b, o, none⟩)) (.pointer (some ⟨b, o, none⟩))).run P w = .ok true w := fun d => by
          simp [Op.equalIn, run_underlying hte, sizeOf, typeInfo, hje, run_sameAddr_same]
        exact hd 9999
      refine ⟨.bool (!ne), fun _ _ _ _ => ?_, NR.mk rfl (.bool _) rfl⟩
      cases ne <;> simp [execOp, e1, e2, eqGuard, binOp, hq]
    · have : (b == b' && o == o') = false := by
        cases hh : (b == b' && o == o') with
        | false => rfl
        | true => simp at hh; exact absurd hh hbo
      rw [this] at hv'
      exact hv'.no.elim
  · exact hv'.no.elim
theorem pv_eqS (h : Inv G n D σ a w) {op : Op} {ty : TypeId} {ne : Bool} {x y : IX} (hc : chkOp P op ty (.eqS ne x y) = true) {av : AV} (hv : POK (pv (.eqS ne x y) (xg true σ) σ) av) :
    ∃ v, runs P a op ty w v ∧ NR G w σ a av v := by
  cases op <;> first | (simp [chkOp] at hc; done) | skip
  rename_i b t u v yt
  simp only [chkOp, Bool.and_eq_true, decide_eq_true_eq] at hc
  obtain ⟨⟨⟨rfl, hx⟩, hy⟩, ht⟩ := hc
  have hbx := BR.of_inv h hx
  obtain ⟨e, hte⟩ : ∃ e, P.underlying t = some (.slice e) := by
    unfold elemOfSl at ht
    split at ht
    · exact ⟨_, by assumption⟩
    · cases ht
  have fin : ∀ (d : Addr) (l c : Nat), a.eval u = .slice (some d) l c → a.eval v = .slice none 0 0 → runs P a (.binOp (if ne = true then .neq else .eql) t u v yt) ty w (.bool ne) := by
    intro d l c e1 e2 _ _ _ _
    have : (Op.equal t (.slice (some d) l c) (.slice none 0 0)).run P w = .ok false w := run_equalIn_nilsl 9999 hte d l c
    cases ne <;> simp [execOp, e1, e2, eqGuard, binOp, this]
  cases y with
  | t i => exact (POK.no hv).elim
  | c yv =>
    by_cases hyv : ∃ z, yv = .sl true z 0 []
    · obtain ⟨z, rfl⟩ := hyv
      have e2 : a.eval v = .slice none 0 0 := by
        unfold chkX at hy
        cases v <;> simp at hy
        rename_i c
        show c = _
        unfold cR at hy
        split at hy <;> simp_all
      have hv' : POK (eqSV ne (xg true σ x) (.sl true z 0 [])) av := hv
      generalize xg true σ x = xv at hbx hv'
      unfold eqSV at hv'
      split at hv'
      · rename_i o z' m cs _ _ _
        rw [hv'.tot]
        rcases VR.inv_sl hbx with ⟨_, h0, _⟩ | ⟨b, off, cap, e1, _⟩
        · cases h0
        · exact ⟨_, fin _ _ _ e1 e2, NR.mk rfl (.bool _) rfl⟩
      · rw [hv'.tot]
        exact ⟨_, fin _ _ _ (VR.inv_arr hbx (Nat.succ_pos _)) e2, NR.mk rfl (.bool _) rfl⟩
      · exact hv'.no.elim
    · have : pv (.eqS ne x (.c yv)) (xg true σ) σ = .no := by
        unfold pv
        split <;> first | rfl | (rename_i hh; cases hh; exact absurd ⟨_, rfl⟩ hyv) | (rename_i hh; cases hh)
      rw [this] at hv
      exact hv.no.elim
end
end Go.AB
end

section
namespace Go.AB
open Go
theorem add_eq (b off i : Nat) : (⟨b, off, none⟩ : Addr).add i = ⟨b, off + i, none⟩ := by
 unfold Addr.add
 by_cases h : i = 0 <;> simp [h]
theorem cell_of_row (w : World) {b : Nat} {c : Array Value} {t : TypeId} {fr : Nat × Nat} (hg : w.heap[b]? = some (.cells c t fr)) (j : Nat) : w.cell? ⟨b, j, none⟩ = c[j]? := by
 unfold World.cell?
 rw [hg]; simp
theorem sub_get (cs : List AV) (off n j : Nat) : (sub cs off n)[j]? = if j < n then cs[off + j]? else none := by
  unfold sub
  rw [List.getElem?_take]
  split
  · rw [List.getElem?_drop]
  · rfl
theorem views_get (cs : List AV) (j : Nat) : (views cs)[j]? = (cs[j]?).map view := by simp [views]
section
variable {P : Program} {G : Gh} {n : Nat} {D : List Deferred} {σ : St} {a : Act} {w : World}
theorem At.views {R : Nat → Nat} {b off : Nat} {cs : List AV} (h : At w R b off cs) : At w R b off (views cs) := by
  obtain ⟨u, h1, h2, hf⟩ := h
  refine ⟨u, fun j c hj => ?_, fun j c hj => ?_, hf.views⟩ <;> rw [views_get] at hj <;> cases hc : cs[j]? <;> rw [hc] at hj <;> simp at hj
  · exact h1 j _ hc
  · rw [← hj]; exact (h2 j _ hc).view
theorem At.sub {R : Nat → Nat} {b off : Nat} {cs : List AV} (h : At w R b off cs) (o n : Nat) : At w R b (off + o) (sub cs o n) := by
  obtain ⟨u, h1, h2, hf⟩ := h
  refine ⟨fun j => u (o + j), fun j c hj => ?_, fun j c hj => ?_, hf.sub o n⟩ <;> rw [sub_get] at hj <;> split at hj <;> try (cases hj; done)
  · rw [Nat.add_assoc]; exact h1 _ c hj
  · exact h2 _ c hj
theorem At.of_cells {b : Nat} {cs : List AV} {c : Array Value} {t : TypeId} {fr : Nat × Nat} {o : Nat → Owner} (hh : w.heap[b]? = some (.cells c t fr)) (hc : CellsR G w o cs c) (hf : Fl cs) : At w G.R b 0 cs := by
  refine ⟨fun j => c.getD j undef, fun j x hj => ?_, fun j x hj => ?_, hf⟩
  all_goals
    have hlt : j < c.size := by rw [hc.1]; exact (List.getElem?_eq_some_iff.1 hj).1
    have hcj : c[j]? = some (c.getD j undef) := by simp [Array.getD_eq_getD_getElem?, hlt]
  · rw [Nat.zero_add, cell_of_row w hh, hcj]
  · exact (hc.2 j x _ hj hcj).1
theorem views_sub (cs : List AV) (off n : Nat) : AB.sub (AB.views cs) off n = AB.views (AB.sub cs off n) := by
 simp [AB.sub, AB.views, List.map_drop, List.map_take]
theorem At.of_cellsT {b : Nat} {cs : List AV} {c : Array Value} {t t' : TypeId} {fr : Nat × Nat} {o : Nat → Owner} (hh : w.heap[b]? = some (.cells c t fr)) (hc : CellsR G w o cs c) (hf : FlT t' cs) : At w G.R b 0 (AB.views cs) := by
  refine ⟨fun j => c.getD j undef, fun j x hj => ?_, fun j x hj => ?_, hf.views⟩
  all_goals
    have hlt : j < c.size := by rw [hc.1]; have := (List.getElem?_eq_some_iff.1 hj).1; simpa [AB.views] using this
    have hcj : c[j]? = some (c.getD j undef) := by simp [Array.getD_eq_getD_getElem?, hlt]
  · rw [Nat.zero_add, cell_of_row w hh, hcj]
  · have hlt' : j < cs.length := by rw [← hc.1]; exact hlt
    have hx : AB.view cs[j] = x := by
      simp only [AB.views, List.getElem?_map, List.getElem?_eq_getElem hlt', Option.map_some] at hj
      injection hj
    rw [← hx]
    exact (hc.2 j cs[j] _ (List.getElem?_eq_getElem hlt') hcj).1.view
theorem rdCells_eq {n off : Nat} {cs ds : List AV} (h : rdCells n off cs = some ds) : off + n ≤ cs.length ∧ ds = views (sub cs off n) := by
  unfold rdCells at h
  by_cases hl : off + n ≤ cs.length
  · rw [decide_eq_true hl] at h; injection h with h; exact ⟨hl, h.symm⟩
  · rw [decide_eq_false hl] at h; cases h
theorem len_sub {cs : List AV} {off n : Nat} (h : off + n ≤ cs.length) : (AB.sub cs off n).length = n := by
 unfold AB.sub; simp; omega
theorem rd_sound (h : Inv G n D σ a w) {x : IX} {p : AV} {v : Value} (hb : BR G w σ a x p v) {m : Nat} {cs : List AV} (hr : rd σ p m = some cs) :
    ∃ b off, v = .pointer (some ⟨b, off, none⟩) ∧ cs.length = m ∧ At w G.R b off cs ∧ views cs = cs := by
  have vv : ∀ l : List AV, views (views l) = views l := fun l => by simp [views, view_view, Function.comp_def]
  unfold rd at hr
  split at hr
  · rename_i ds
    obtain ⟨hl, rfl⟩ := rdCells_eq hr
    obtain ⟨i, b, c, t, _, _, _, hv, _, _, hh, hc, hfl⟩ := hb
    have hat := ((At.of_cells hh hc hfl).sub 0 m).views
    simp only [Nat.add_zero] at hat
    exact ⟨b, 0, hv, by simp [AB.views, len_sub hl], hat, vv _⟩
  · rename_i d off
    unfold rdLoc at hr
    split at hr
    · rename_i ds hd
      obtain ⟨hl, rfl⟩ := rdCells_eq hr
      obtain ⟨b, hv, ht⟩ := hb
      have ht := ht ds hd
      have hs := h.slots d _ ht
      rw [hd] at hs
      obtain ⟨b', c, t, h1, h2, h3, h4, h5, h6⟩ := hs
      injection h1 with h1; injection h1 with h1; injection h1 with h1 _ _
      subst h1
      have hat := ((At.of_cells h4 h5 h6).sub off m).views
      rw [Nat.zero_add] at hat
      exact ⟨b, off, hv, by simp [AB.views, len_sub hl], hat, vv _⟩
    · cases hr
  · rename_i ds
    obtain ⟨hl, rfl⟩ := rdCells_eq hr
    obtain ⟨b, off, hv, hR, hat⟩ := VR.inv_sp hb
    have hat := (hat.sub 0 m).views
    exact ⟨b, off, hv, by simp [AB.views, len_sub hl], hat, vv _⟩
  · rename_i b off
    unfold rdSO at hr
    split at hr
    · rename_i ds hs
      obtain ⟨hl, rfl⟩ := rdCells_eq hr
      have hv := VR.inv_ref hb
      obtain ⟨h1, h2, c, t, h3, h4, h5⟩ := h.store b _ hs
      have hat := (At.of_cellsT h3 h4 h5).sub off m
      rw [Nat.zero_add, views_sub] at hat
      exact ⟨b, off, hv, by simp [AB.views, len_sub hl], hat, vv _⟩
    · cases hr
  · cases hr
theorem sizeIs_eq {t : TypeId} {m : Nat} (h : sizeIs P t m = true) : ∃ i, P.info? t = some i ∧ i.size = m := by
  unfold sizeIs at h
  split at h
  · exact ⟨_, by assumption, by simpa using h⟩
  · cases h
theorem run_sizeOf {t : TypeId} {m : Nat} (h : sizeIs P t m = true) (w : World) : (sizeOf t).run P w = .ok m w := by
 obtain ⟨i, h1, h2⟩ := sizeIs_eq h
 simp [sizeOf, typeInfo, h1, h2]
theorem run_isAgg {t : TypeId} {multi : Bool} (h : aggIs P t multi = true) (w : World) : (isAgg t).run P w = .ok multi w := by
  unfold aggIs at h
  split at h
  · rename_i hh; subst h; simp [isAgg, underlying, hh]
  · rename_i hh; subst h; simp [isAgg, underlying, hh]
  · rename_i d h1 h2 hh
    have hm : multi = false := by simpa using h
    subst hm
    simp only [isAgg, underlying, run_program, Sem.run_bind, Result.andThen_ok, hh, Sem.run_pure]
  · cases h
theorem At.vals {R : Nat → Nat} {b off : Nat} {cs : List AV} (h : At w R b off cs) : ∃ us : List Value, us.length = cs.length ∧ (∀ (j : Nat) (v : Value), us[j]? = some v → w.cell? ((⟨b, off, none⟩ : Addr).add j) = some v) ∧
    (∀ (j : Nat) (c : AV) (v : Value), cs[j]? = some c → us[j]? = some v → VR w R c v) := by
  obtain ⟨u, h1, h2, _⟩ := h
  have key : ∀ (j : Nat) (v : Value), ((List.range cs.length).map u)[j]? = some v → ∃ hj : j < cs.length, v = u j := by
    intro j v hj
    rw [List.getElem?_map] at hj
    by_cases hlt : j < cs.length
    · rw [List.getElem?_range hlt] at hj; simp at hj; exact ⟨hlt, hj.symm⟩
    · rw [List.getElem?_eq_none (by simpa using hlt)] at hj; simp at hj
  refine ⟨(List.range cs.length).map u, by simp, fun j v hj => ?_, fun j c v hc hj => ?_⟩
  · obtain ⟨hlt, rfl⟩ := key j v hj
    rw [add_eq]
    exact h1 j cs[j] (List.getElem?_eq_getElem hlt)
  · obtain ⟨_, rfl⟩ := key j v hj
    exact h2 j c hc
theorem loadVar_sound {R : Nat → Nat} {t : TypeId} {m : Nat} {multi : Bool} (hs : sizeIs P t m = true) (hm : aggIs P t multi = true) (h1 : (multi || m == 1) = true) {b off : Nat} {cs : List AV} (hl : cs.length = m) (hat : At w R b off cs) :
  ∃ v, (loadVar t ⟨b, off, none⟩).run P w = .ok v w ∧ VR w R (aggOf multi cs) v := by
 have hfl : Fl cs := by obtain ⟨_, _, _, hf⟩ := hat; exact hf
 obtain ⟨us, hul, hc, hv⟩ := hat.vals
 cases multi with
 | true =>
  have := run_loadCells_list (P := P) w ⟨b, off, none⟩ us hc
  rw [hul, hl] at this
  refine ⟨.agg us.toArray, by simp [loadVar, run_isAgg hm, run_sizeOf hs, this], ?_⟩
  show VR w R (.agg cs) _
  exact .agg cs us.toArray hfl (by simp [hul]) fun j c v hcj hvj => hv j c v hcj (by simpa using hvj)
 | false =>
  have hm1 : m = 1 := by simpa using h1
  subst hm1
  match cs, hl with
  | [c], _ =>
   match us, hul with
   | [u], _ =>
    have h0 := hc 0 u rfl
    rw [add_eq] at h0
    refine ⟨u, by simp [loadVar, run_isAgg hm, show (w.cell? ⟨b, off, none⟩) = some u from h0], hv 0 c u rfl rfl⟩
theorem ckV_ok {a av : AV} (h : POK (ckV a) av) : av = a ∧ isV a = true := by
 unfold ckV at h
 cases hi : isV a with
 | true => rw [hi] at h; exact ⟨h.tot, rfl⟩
 | false => rw [hi] at h; exact h.no.elim
theorem ckP_ok {c : Prop} {a av : AV} (h : POK (ckP c a) av) : av = a ∧ isV a = true ∧ c := by
 unfold ckP at h
 cases hi : isV a with
 | true => rw [hi] at h; exact ⟨h.prt.1, rfl, h.prt.2⟩
 | false => rw [hi] at h; exact h.no.elim
theorem view_aggOf {multi : Bool} {cs : List AV} (hv : views cs = cs) : AB.view (aggOf multi cs) = aggOf multi cs := by
 cases multi with
 | true => rfl
 | false => cases cs with
  | nil => rfl
  | cons c l => simp only [views, List.map_cons, List.cons.injEq] at hv; exact hv.1
theorem pv_load (h : Inv G n D σ a w) {op : Op} {ty : TypeId} {m : Nat} {multi : Bool} {x : IX} (hc : chkOp P op ty (.load m multi x) = true) {av : AV} (hv : POK (pv (.load m multi x) (xg true σ) σ) av) :
  ∃ v, runs P a op ty w v ∧ NR G w σ a av v := by
 cases op <;> first | (simp [chkOp] at hc; done) | skip
 rename_i t y
 simp only [chkOp, Bool.and_eq_true] at hc
 obtain ⟨⟨⟨hs, hm⟩, h1⟩, hy⟩ := hc
 have hb := BR.of_inv h hy
 have hv' : POK (loadV multi (rd σ (xg true σ x) m)) av := hv
 cases hr : rd σ (xg true σ x) m with
 | none => rw [hr] at hv'; exact hv'.no.elim
 | some cs =>
  rw [hr] at hv'
  obtain ⟨rfl, hi⟩ := ckV_ok hv'
  obtain ⟨b, off, e, hl, hat, hvw⟩ := rd_sound h hb hr
  obtain ⟨v, hrun, hvr⟩ := loadVar_sound hs hm h1 hl hat
  exact ⟨v, fun _ _ _ _ => by simp [execOp, e, Instr.loadAt, Instr.sureAddr, hrun], NR.mk hi hvr (view_aggOf hvw)⟩
theorem part_sound {R : Nat → Nat} {t : TypeId} {m off : Nat} {multi : Bool} (hs : sizeIs P t m = true) (hm : aggIs P t multi = true) (h1 : (multi || m == 1) = true) {cs : List AV} {vs : Array Value} (hl : vs.size = cs.length)
    (hr : ∀ (j : Nat) (c : AV) (u : Value), cs[j]? = some c → vs[j]? = some u → VR w R c u) (hfl : Fl cs) (hfit : off + m ≤ cs.length) :
    ∃ v, (part t vs off).run P w = .ok v w ∧ VR w R (aggOf multi (AB.sub cs off m)) v := by
  cases multi with
  | true =>
    refine ⟨.agg (vs.extract off (off + m)), by simp [part, run_isAgg hm, run_sizeOf hs], ?_⟩
    show VR w R (.agg _) _
    refine .agg _ _ (hfl.sub off m) (by rw [len_sub hfit]; simp; omega) fun j c u hc hu => ?_
    rw [sub_get] at hc
    split at hc
    · rename_i hj
      refine hr (off + j) c u hc ?_
      rw [Array.getElem?_extract] at hu
      split at hu
      · exact hu
      · cases hu
    · cases hc
  | false =>
    have hm1 : m = 1 := by simpa using h1
    subst hm1
    have hlt : off < vs.size := by omega
    have hlt' : off < cs.length := by omega
    refine ⟨vs[off], by simp [part, run_isAgg hm, Array.getElem?_eq_getElem hlt], ?_⟩
    have : AB.sub cs off 1 = [cs[off]] := by
      unfold AB.sub
      rw [List.drop_eq_getElem_cons hlt']; rfl
    rw [this]
    exact hr off _ _ (List.getElem?_eq_getElem hlt') (Array.getElem?_eq_getElem hlt)
theorem pv_field (h : Inv G n D σ a w) {op : Op} {ty : TypeId} {m off : Nat} {multi : Bool} {x : IX} (hc : chkOp P op ty (.field m multi off x) = true) {av : AV} (hv : POK (pv (.field m multi off x) (xg true σ) σ) av) :
    ∃ v, runs P a op ty w v ∧ NR G w σ a av v := by
  cases op <;> first | (simp [chkOp] at hc; done) | skip
  rename_i t y i
  simp only [chkOp, Bool.and_eq_true] at hc
  obtain ⟨hy, hc⟩ := hc
  split at hc <;> try (cases hc; done)
  rename_i fs ht
  split at hc <;> try (cases hc; done)
  rename_i f hf
  simp only [Bool.and_eq_true, beq_iff_eq] at hc
  obtain ⟨⟨⟨rfl, hs⟩, hm⟩, h1⟩ := hc
  have hb := BR.of_inv h hy
  have hv' : POK (fieldV m multi f.offset (xg true σ x)) av := hv
  generalize xg true σ x = xv at hb hv'
  unfold fieldV at hv'
  split at hv'
  · rename_i cs
    by_cases hfit : f.offset + m ≤ cs.length
    · rw [decide_eq_true hfit] at hv'
      obtain ⟨rfl, hi⟩ := ckV_ok hv'
      obtain ⟨vs, e, hl, hr, hfl⟩ := VR.inv_agg hb
      obtain ⟨v, hrun, hvr⟩ := part_sound hs hm h1 hl hr hfl hfit
      refine ⟨v, fun _ _ _ _ => by simp [execOp, e, Instr.field, underlying, ht, hf, asAgg, hrun], NR.mk hi hvr.view (view_view _)⟩
    · rw [decide_eq_false hfit] at hv'; exact hv'.no.elim
  · exact hv'.no.elim
theorem pv_index (h : Inv G n D σ a w) {op : Op} {ty : TypeId} {m len : Nat} {multi : Bool} {x i : IX} (hc : chkOp P op ty (.index m multi len x i) = true) {av : AV} (hv : POK (pv (.index m multi len x i) (xg true σ) σ) av) :
    ∃ v, runs P a op ty w v ∧ NR G w σ a av v := by
  cases op <;> first | (simp [chkOp] at hc; done) | skip
  rename_i t y j
  simp only [chkOp, Bool.and_eq_true] at hc
  obtain ⟨⟨hy, hj⟩, hc⟩ := hc
  split at hc <;> try (cases hc; done)
  rename_i l e ht
  simp only [Bool.and_eq_true, beq_iff_eq] at hc
  obtain ⟨⟨⟨rfl, hs⟩, hm⟩, h1⟩ := hc
  have hb := BR.of_inv h hy
  have hbi := BR.of_inv h hj
  have hv' : POK (indexV m multi l (xg true σ x) (xg true σ i)) av := hv
  generalize xg true σ x = xv at hb hv'
  generalize xg true σ i = iv at hbi hv'
  unfold indexV at hv'
  split at hv'
  · rename_i cs k q
    cases hcl : l * m == cs.length with
    | false => rw [hcl] at hv'; exact hv'.no.elim
    | true =>
      rw [hcl] at hv'
      obtain ⟨rfl, hi, h0, hlt⟩ := ckP_ok hv'
      obtain ⟨vs, e1, hl, hr, hfl⟩ := VR.inv_agg hb
      have e2 : a.eval j = .int k q := VR.inv_int hbi
      have hfit : q.toNat * m + m ≤ cs.length := by
        rw [← beq_iff_eq.1 hcl]
        have : q.toNat + 1 ≤ l := by omega
        calc q.toNat * m + m = (q.toNat + 1) * m := by rw [Nat.add_mul, Nat.one_mul]
          _ ≤ l * m := Nat.mul_le_mul_right _ this
      obtain ⟨v, hrun, hvr⟩ := part_sound hs hm h1 hl hr hfl hfit
      refine ⟨v, fun _ _ _ _ => by simp [execOp, e1, e2, Instr.index, underlying, ht, asIntOf, h0, hlt, run_sizeOf hs, hrun], NR.mk hi hvr.view (view_view _)⟩
  · exact hv'.no.elim
theorem strT_eq {t : TypeId} (h : strT P t = true) : P.underlying t = some .string := by
  unfold strT at h
  split at h
  · assumption
  · cases h
theorem pv_sindex (h : Inv G n D σ a w) {op : Op} {ty : TypeId} {x i : IX} (hc : chkOp P op ty (.sindex x i) = true) {av : AV} (hv : POK (pv (.sindex x i) (xg true σ) σ) av) :
    ∃ v, runs P a op ty w v ∧ NR G w σ a av v := by
  cases op <;> first | (simp [chkOp] at hc; done) | skip
  rename_i t y j
  simp only [chkOp, Bool.and_eq_true] at hc
  obtain ⟨⟨hy, hj⟩, ht⟩ := hc
  have ht := strT_eq ht
  have hb := BR.of_inv h hy
  have hbi := BR.of_inv h hj
  have hv' : POK (sindexV (xg true σ x) (xg true σ i)) av := hv
  generalize xg true σ x = xv at hb hv'
  generalize xg true σ i = iv at hbi hv'
  unfold sindexV at hv'
  split at hv'
  · rename_i s k q
    obtain ⟨rfl, h0, hlt⟩ := hv'.prt
    have e1 : a.eval y = .string ⟨s.toArray⟩ := VR.inv_str hb
    have e2 : a.eval j = .int k q := VR.inv_int hbi
    have hq : q.toNat < s.length := by omega
    have hg : (ByteArray.mk s.toArray)[q.toNat]? = some (s.getD q.toNat 0) := by
      have hsz : q.toNat < (ByteArray.mk s.toArray).size := by simpa [ByteArray.size] using hq
      rw [show (ByteArray.mk s.toArray)[q.toNat]? = some ((ByteArray.mk s.toArray)[q.toNat]'hsz) from getElem?_pos (ByteArray.mk s.toArray) q.toNat hsz]
      have : (ByteArray.mk s.toArray)[q.toNat] = s.toArray[q.toNat]'(by simpa using hq) := rfl
      rw [this]
      simp [List.getD_eq_getElem?_getD, List.getElem?_eq_getElem hq]
    refine ⟨.int .u8 (s.getD q.toNat 0).toNat, fun _ _ _ _ => by simp [execOp, e1, e2, Instr.index, underlying, ht, asIntOf, h0, hg], NR.mk rfl (.int _ _) rfl⟩
  · exact hv'.no.elim
theorem elemOfSl_eq {t e : TypeId} (h : elemOfSl P t = some e) : P.underlying t = some (.slice e) := by
  unfold elemOfSl at h
  split at h
  · rename_i ht; injection h with h; subst h; exact ht
  · cases h
theorem pv_fieldAddr (h : Inv G n D σ a w) {op : Op} {ty : TypeId} {off : Nat} {x : IX} (hc : chkOp P op ty (.fieldAddr off x) = true) {av : AV} (hv : POK (pv (.fieldAddr off x) (xg true σ) σ) av) :
    ∃ v, runs P a op ty w v ∧ NR G w σ a av v := by
  cases op <;> first | (simp [chkOp] at hc; done) | skip
  rename_i t y i
  simp only [chkOp, Bool.and_eq_true] at hc
  obtain ⟨hy, hc⟩ := hc
  split at hc <;> try (cases hc; done)
  rename_i fs ht
  split at hc <;> try (cases hc; done)
  rename_i f hf
  simp only [Bool.and_eq_true, beq_iff_eq] at hc
  obtain ⟨rfl, hsz⟩ := hc
  split at hsz <;> try (cases hsz; done)
  rename_i ti hti
  have hpos : ti.size ≠ 0 := by have := of_decide_eq_true hsz; omega
  have hb := BR.of_inv h hy
  have hrun : ∀ b o, a.eval y = .pointer (some ⟨b, o, none⟩) → runs P a (.fieldAddr t y i) ty w (.pointer (some ⟨b, o + f.offset, none⟩)) := by
    intro b o e _ _ _ _
    simp [execOp, e, Instr.fieldAt, underlying, ht, hf, Instr.sureAddr, fieldPlace, sizeOf, typeInfo, hti, hpos, add_eq]
  have hv' : POK (fieldAddrV f.offset x (xg true σ x)) av := hv
  generalize hxv : xg true σ x = xv at hb hv'
  unfold fieldAddrV at hv'
  split at hv'
  · rename_i d o
    rw [hv'.tot]
    obtain ⟨b, h1, h2⟩ := hb
    exact ⟨_, hrun b o h1, b, rfl, h2⟩
  · rename_i cs
    by_cases hfit : f.offset ≤ cs.length
    · rw [decide_eq_true hfit] at hv'
      rw [hv'.tot]
      obtain ⟨b, o, e, hR, u, h1, h2, hfl⟩ := VR.inv_sp hb
      refine ⟨_, hrun b o e, NR.mk rfl (.sp _ b (o + f.offset) (fun j => u (f.offset + j)) (hfl.drop _) (by simp; omega) (fun j c hj => ?_) (fun j c hj => ?_)) rfl⟩
      · rw [List.getElem?_drop] at hj
        rw [Nat.add_assoc]; exact h1 _ c hj
      · rw [List.getElem?_drop] at hj
        exact h2 _ c hj
    · rw [decide_eq_false hfit] at hv'; exact hv'.no.elim
  · rename_i b o
    rw [hv'.tot]
    exact ⟨_, hrun b o (VR.inv_ref hb), NR.mk rfl (.ref _ _) rfl⟩
  · rename_i cs
    unfold locA at hv'
    split at hv'
    · rename_i j
      obtain ⟨rfl, _⟩ := hv'.prt
      obtain ⟨i', b, c, t', e1, hl, htm, hvv, _⟩ := hb
      injection e1 with e1
      subst e1
      exact ⟨_, hrun b 0 hvv, b, by rw [Nat.zero_add], fun _ _ => by rw [htm, hvv]⟩
    · exact hv'.no.elim
  · exact hv'.no.elim
end
end Go.AB
end

section
namespace Go.AB
open Go
section
variable {P : Program} {G : Gh} {n : Nat} {D : List Deferred} {σ : St} {a : Act} {w : World}
theorem fit_of {k : Int} {m sz len : Nat} (h0 : 0 ≤ k) (h1 : k < m) (hl : len = m * sz) : k.toNat * sz + sz ≤ len := by
 have : k.toNat + 1 ≤ m := by omega
 calc k.toNat * sz + sz = (k.toNat + 1) * sz := by rw [Nat.add_mul, Nat.one_mul]
  _ ≤ m * sz := Nat.mul_le_mul_right _ this
  _ = len := hl.symm
theorem pv_indexAddr (h : Inv G n D σ a w) {op : Op} {ty : TypeId} {z : List AV} {x i : IX} (hc : chkOp P op ty (.indexAddr z x i) = true) {av : AV} (hv : POK (pv (.indexAddr z x i) (xg true σ) σ) av) :
    ∃ v, runs P a op ty w v ∧ NR G w σ a av v := by
  cases op <;> first | (simp [chkOp] at hc; done) | skip
  rename_i t y j
  simp only [chkOp, Bool.and_eq_true] at hc
  obtain ⟨⟨hy, hj⟩, hc⟩ := hc
  split at hc <;> try (cases hc; done)
  rename_i e ht
  have ht := elemOfSl_eq ht
  have hb := BR.of_inv h hy
  have hbi := BR.of_inv h hj
  have hv' : POK (indexAddrV z (xg true σ x) (xg true σ i)) av := hv
  generalize xg true σ x = xv at hb hv'
  generalize xg true σ i = iv at hbi hv'
  have hrun : ∀ b o l c k q, a.eval y = .slice (some ⟨b, o, none⟩) l c → a.eval j = .int k q → 0 ≤ q → q < l → runs P a (.indexAddr t y j) ty w (.pointer (some ⟨b, o + q.toNat * z.length, none⟩)) := by
    intro b o l c k q e1 e2 h0 h1 _ _ _ _
    simp [execOp, e1, e2, Instr.indexAt, asIntOf, run_underlying ht, h0, h1, run_sizeOf hc, add_eq]
  unfold indexAddrV at hv'
  split at hv'
  · rename_i ow s m cs k q
    cases hs : s == z.length with
    | false => rw [hs] at hv'; exact hv'.no.elim
    | true =>
      rw [hs] at hv'
      have hs := beq_iff_eq.1 hs
      obtain ⟨rfl, h0, h1⟩ := hv'.prt
      have e2 : a.eval j = .int k q := VR.inv_int hbi
      rcases VR.inv_sl hb with ⟨_, rfl, _⟩ | ⟨b, o, cap, e1, hl, hR, hcap, hat⟩
      · simp at h1; omega
      · rw [hs] at hl
        have hfit := fit_of h0 h1 hl
        have hlen : (views (AB.sub cs (q.toNat * z.length) z.length)).length = z.length := by simp only [AB.views, List.length_map, len_sub hfit]
        have hpad : pad z (views (AB.sub cs (q.toNat * z.length) z.length)) = views (AB.sub cs (q.toNat * z.length) z.length) := by
          unfold pad
          rw [hlen, beq_self_eq_true]; rfl
        have hat' := (hat.sub (q.toNat * z.length) z.length).views
        obtain ⟨u, u1, u2, u3⟩ := hat'
        rw [hpad]
        refine ⟨_, hrun b o m cap k q e1 e2 h0 h1, NR.mk rfl (.sp _ b (o + q.toNat * z.length) u u3 ?_ u1 u2) rfl⟩
        rw [hlen]
        omega
  · rename_i b o m c k q
    obtain ⟨rfl, h0, h1⟩ := hv'.prt
    rcases VR.inv_arr' hb with e0 | ⟨h2, _, _⟩
    · exact ⟨_, hrun b o m c k q e0 (VR.inv_int hbi) h0 h1, NR.mk rfl (.ref _ _) rfl⟩
    · omega
  · exact hv'.no.elim
theorem pv_aindexAddr (h : Inv G n D σ a w) {op : Op} {ty : TypeId} {sz len : Nat} {x i : IX} (hc : chkOp P op ty (.aindexAddr sz len x i) = true) {av : AV} (hv : POK (pv (.aindexAddr sz len x i) (xg true σ) σ) av) :
    ∃ v, runs P a op ty w v ∧ NR G w σ a av v := by
  cases op <;> first | (simp [chkOp] at hc; done) | skip
  rename_i t y j
  simp only [chkOp, Bool.and_eq_true] at hc
  obtain ⟨⟨hy, hj⟩, hc⟩ := hc
  split at hc <;> try (cases hc; done)
  rename_i l e ht
  simp only [Bool.and_eq_true, beq_iff_eq] at hc
  obtain ⟨rfl, hs⟩ := hc
  have hb := BR.of_inv h hy
  have hbi := BR.of_inv h hj
  have hv' : POK (aindexAddrV sz l x (xg true σ x) (xg true σ i)) av := hv
  generalize hxv : xg true σ x = xv at hb hv'
  generalize xg true σ i = iv at hbi hv'
  have hrun : ∀ b o k q, a.eval y = .pointer (some ⟨b, o, none⟩) → a.eval j = .int k q → 0 ≤ q → q < l → runs P a (.indexAddr t y j) ty w (.pointer (some ⟨b, o + q.toNat * sz, none⟩)) := by
    intro b o k q e1 e2 h0 h1 _ _ _ _
    simp [execOp, e1, e2, Instr.indexAt, asIntOf, run_underlying ht, Instr.sureAddr, h0, h1, run_sizeOf hs, add_eq]
  unfold aindexAddrV at hv'
  split at hv'
  · rename_i d o k q
    obtain ⟨rfl, h0, h1⟩ := hv'.prt
    obtain ⟨b, e1, h2⟩ := hb
    exact ⟨_, hrun b o k q e1 (VR.inv_int hbi) h0 h1, b, rfl, h2⟩
  · rename_i cs k q
    by_cases hfit : l * sz ≤ cs.length
    · rw [decide_eq_true hfit] at hv'
      obtain ⟨rfl, h0, h1⟩ := hv'.prt
      obtain ⟨b, o, e, hR, u, u1, u2, u3⟩ := VR.inv_sp hb
      have hf := fit_of (sz := sz) h0 h1 rfl
      refine ⟨_, hrun b o k q e (VR.inv_int hbi) h0 h1, NR.mk rfl (.sp _ b (o + q.toNat * sz) (fun j => u (q.toNat * sz + j)) (u3.drop _) (by simp; omega) (fun j c hj => ?_) (fun j c hj => ?_)) rfl⟩
      · rw [List.getElem?_drop] at hj
        rw [Nat.add_assoc]; exact u1 _ c hj
      · rw [List.getElem?_drop] at hj
        exact u2 _ c hj
    · rw [decide_eq_false hfit] at hv'; exact hv'.no.elim
  · rename_i b o k q
    obtain ⟨rfl, h0, h1⟩ := hv'.prt
    exact ⟨_, hrun b o k q (VR.inv_ref hb) (VR.inv_int hbi) h0 h1, NR.mk rfl (.ref _ _) rfl⟩
  · rename_i cs k q
    unfold locA at hv'
    split at hv'
    · rename_i j'
      obtain ⟨rfl, h0, h1⟩ := hv'.prt
      obtain ⟨i', b, c, t', e1, hl, htm, hvv, _⟩ := hb
      injection e1 with e1
      subst e1
      exact ⟨_, hrun b 0 k q hvv (VR.inv_int hbi) h0 h1, b, by rw [Nat.zero_add], fun _ _ => by rw [htm, hvv]⟩
    · exact hv'.no.elim
  · exact hv'.no.elim
theorem run_bound {lo : Option Operand} {li : Option IX} (h : Inv G n D σ a w) (hc : chkO lo li = true) {d l : Int} (hl : ixV (xg true σ) li d = some l) :
    (lo = none ∧ l = d) ∨ (∃ k o, lo = some o ∧ a.eval o = .int k l) := by
  unfold chkO at hc
  split at hc
  · injection hl with hl; exact .inl ⟨rfl, hl.symm⟩
  · rename_i o x
    have hb := BR.of_inv h hc
    unfold ixV at hl
    simp only at hl
    split at hl
    · rename_i k q hq
      injection hl with hl; subst hl
      rw [hq] at hb
      exact .inr ⟨k, o, rfl, VR.inv_int hb⟩
    · cases hl
  · cases hc
theorem run_sliceBounds (isSl : Bool) (len cap : Nat) {lo hi : Option Value} {l hh : Int} (hlo : (lo = none ∧ l = 0) ∨ ∃ k, lo = some (.int k l)) (hhi : (hi = none ∧ hh = len) ∨ ∃ k, hi = some (.int k hh))
    (h0 : 0 ≤ l) (h1 : l ≤ hh) (h2 : hh ≤ cap) : (Instr.sliceBounds isSl len cap lo hi none).run P w = .ok (l.toNat, hh.toNat, cap) w := by
  have hb : ∀ (k : IntKind) (q : Int) (y : Nat) (c : BoundsCode), 0 ≤ q → q ≤ y → (Instr.sliceBound (.int k q) y c).run P w = .ok q.toNat w := by
    intro k q y c hq hy
    simp [Instr.sliceBound, asIntOf, hq, hy]
  rcases hhi with ⟨rfl, rfl⟩ | ⟨k, rfl⟩
  · rcases hlo with ⟨rfl, rfl⟩ | ⟨k', rfl⟩
    · simp [Instr.sliceBounds]
    · simp [Instr.sliceBounds, hb k' l len _ h0 h1]
  · have := hb k hh cap (if isSl then .sliceAcap else .sliceAlen) (by omega) h2
    rcases hlo with ⟨rfl, rfl⟩ | ⟨k', rfl⟩
    · simp [Instr.sliceBounds, this]
    · have h3 := hb k' l hh.toNat .sliceB h0 (by omega)
      simp [Instr.sliceBounds, this, h3]
theorem run_sliceBounds3 (isSl : Bool) (len cap : Nat) {lo : Option Value} {l hh m : Int} {kh km : IntKind} (hlo : (lo = none ∧ l = 0) ∨ ∃ k, lo = some (.int k l))
    (h0 : 0 ≤ l) (h1 : l ≤ hh) (h2 : hh ≤ m) (h3 : m ≤ cap) : (Instr.sliceBounds isSl len cap lo (some (.int kh hh)) (some (.int km m))).run P w = .ok (l.toNat, hh.toNat, m.toNat) w := by
  have hb : ∀ (k : IntKind) (q : Int) (y : Nat) (c : BoundsCode), 0 ≤ q → q ≤ y → (Instr.sliceBound (.int k q) y c).run P w = .ok q.toNat w := by
    intro k q y c hq hy
    simp [Instr.sliceBound, asIntOf, hq, hy]
  have e1 := hb km m cap (if isSl then .slice3Acap else .slice3Alen) (by omega) h3
  have e2 := hb kh hh m.toNat .slice3B (by omega) (by omega)
  rcases hlo with ⟨rfl, rfl⟩ | ⟨k', rfl⟩
  · simp [Instr.sliceBounds, e1, e2]
  · have e3 := hb k' l hh.toNat .slice3C h0 (by omega)
    simp [Instr.sliceBounds, e1, e2, e3]
theorem map_bound {lo : Option Operand} {l d : Int} (h : (lo = none ∧ l = d) ∨ (∃ k o, lo = some o ∧ a.eval o = .int k l)) : (lo.map a.eval = none ∧ l = d) ∨ ∃ k, lo.map a.eval = some (.int k l) := by
  rcases h with ⟨rfl, h⟩ | ⟨k, o, rfl, h⟩
  · exact .inl ⟨rfl, h⟩
  · exact .inr ⟨k, by simp [h]⟩
theorem pv_slice (h : Inv G n D σ a w) {op : Op} {ty : TypeId} {sz : Nat} {x : IX} {lo hi mx : Option IX} (hc : chkOp P op ty (.slice sz x lo hi mx) = true) {av : AV} (hv : POK (pv (.slice sz x lo hi mx) (xg true σ) σ) av) :
    ∃ v, runs P a op ty w v ∧ NR G w σ a av v := by
  cases op <;> first | (simp [chkOp] at hc; done) | skip
  rename_i t y l' h' m'
  simp only [chkOp, Bool.and_eq_true] at hc
  obtain ⟨⟨⟨⟨hy, hlo⟩, hhi⟩, hmx⟩, hc⟩ := hc
  split at hc <;> try (cases hc; done)
  rename_i e ht
  have ht := elemOfSl_eq ht
  cases mx with
  | some m =>
    have hb := BR.of_inv h hy
    have hv' : POK (slice3V sz (xg true σ) lo hi m (xg true σ x)) av := hv
    generalize xg true σ x = xv at hb hv'
    unfold slice3V at hv'
    split at hv'
    · rename_i b o len cap
      unfold slice3Arr at hv'
      split at hv'
      · rename_i l hh mm hl hhh hmm
        obtain ⟨rfl, h0, h1, h2, h3⟩ := hv'.prt
        have bl := map_bound (run_bound h hlo hl)
        cases hi with
        | none => cases hhh
        | some hi' =>
        have bh := run_bound h hhi (d := 0) hhh
        have bm := run_bound h hmx (d := 0) hmm
        rcases bh with ⟨hn, _⟩ | ⟨kh, oh, eh1, eh2⟩
        · subst hn; unfold chkO at hhi; cases hhi
        rcases bm with ⟨hn, _⟩ | ⟨km, om, em1, em2⟩
        · subst hn; unfold chkO at hmx; cases hmx
        subst eh1; subst em1
        have hrun := run_sliceBounds3 (P := P) (w := w) (kh := kh) (km := km) true len cap bl h0 h1 h2 h3
        have e3 : hh.toNat - l.toNat = (hh - l).toNat := by omega
        rcases VR.inv_arr' hb with e1 | ⟨rfl, rfl, e1⟩
        · by_cases hcl : mm.toNat = l.toNat
          · have e5 : arrOff o mm.toNat l.toNat sz = o := by unfold arrOff; rw [hcl, beq_self_eq_true]; rfl
            rw [e5]
            refine ⟨.slice (some ⟨b, o, none⟩) (hh - l).toNat (mm.toNat - l.toNat), fun _ _ _ _ => ?_, NR.mk rfl (.arr _ _ _ _) rfl⟩
            simp [execOp, e1, Instr.sliceAt, run_underlying ht, Instr.slice, eh2, em2, hrun, run_sizeOf hc, hcl, e3]
          · have e5 : arrOff o mm.toNat l.toNat sz = o + l.toNat * sz := by
              unfold arrOff
              rw [show (mm.toNat == l.toNat) = false by simpa using hcl]; rfl
            rw [e5]
            refine ⟨.slice (some ⟨b, o + l.toNat * sz, none⟩) (hh - l).toNat (mm.toNat - l.toNat), fun _ _ _ _ => ?_, NR.mk rfl (.arr _ _ _ _) rfl⟩
            simp [execOp, e1, Instr.sliceAt, run_underlying ht, Instr.slice, eh2, em2, hrun, run_sizeOf hc, hcl, e3, add_eq]
        · have h6 : mm = 0 := by omega
          have h4 : hh = 0 := by omega
          have h5 : l = 0 := by omega
          subst h6; subst h4; subst h5
          refine ⟨.slice none 0 0, fun _ _ _ _ => ?_, NR.mk rfl (by exact .arr0 _ _) rfl⟩
          simp [execOp, e1, Instr.sliceAt, run_underlying ht, Instr.slice, eh2, em2, hrun, run_sizeOf hc]
      · exact hv'.no.elim
    · exact hv'.no.elim
  | none =>
    have hm' : m' = none := by
      cases m' with
      | none => rfl
      | some _ => simp [chkO] at hmx
    subst hm'
    have hb := BR.of_inv h hy
    have hv' : POK (sliceV sz (xg true σ) lo hi (xg true σ x)) av := hv
    generalize xg true σ x = xv at hb hv'
    unfold sliceV at hv'
    split at hv'
    · rename_i ow s m cs
      cases hs : s == sz with
      | false => rw [hs] at hv'; exact hv'.no.elim
      | true =>
        rw [hs] at hv'
        obtain rfl := beq_iff_eq.1 hs
        have hv'' : POK (sliceSl s m cs (ixV (xg true σ) lo 0) (ixV (xg true σ) hi m)) av := hv'
        unfold sliceSl at hv''
        split at hv''
        · rename_i l hh hl hhh
          cases h1s : Nat.ble 1 s with
          | false => rw [h1s] at hv''; exact hv''.no.elim
          | true =>
          rw [h1s] at hv''
          have hs1 : 1 ≤ s := Nat.le_of_ble_eq_true h1s
          obtain ⟨rfl, h0, h1, h2⟩ := hv''.prt
          have bl := map_bound (run_bound h hlo hl)
          have bh := map_bound (run_bound h hhi hhh)
          rcases VR.inv_sl hb with ⟨e1, rfl, rfl⟩ | ⟨b, o, cap, e1, hlen, hR, hcap, hat⟩
          · have hl0 : l = 0 := by omega
            have hh0 : hh = 0 := by omega
            subst hl0; subst hh0
            have hsub : AB.sub ([] : List AV) ((0 : Int).toNat * s) ((0 - 0 : Int).toNat * s) = [] := by simp [AB.sub]
            rcases e1 with e1 | ⟨_, ad, cap, e1⟩
            · refine ⟨.slice none 0 0, fun _ _ _ _ => ?_, NR.mk rfl ?_ rfl⟩
              · have := run_sliceBounds (P := P) (w := w) true 0 0 bl bh (by omega) (by omega) (by omega)
                simp [execOp, e1, Instr.sliceAt, run_underlying ht, Instr.slice, this, run_sizeOf hc]
              · rw [hsub]
                show VR _ _ (.sl false s (0 / s) []) _
                rw [Nat.zero_div]; exact .slnil _ _
            · refine ⟨.slice (some (if cap = 0 then ad else ad.add 0)) 0 cap, fun _ _ _ _ => ?_, NR.mk rfl ?_ rfl⟩
              · have := run_sliceBounds (P := P) (w := w) true 0 cap bl bh (by omega) (by omega) (by omega)
                by_cases hc0 : cap = 0
                · subst hc0
                  simp [execOp, e1, Instr.sliceAt, run_underlying ht, Instr.slice, this, run_sizeOf hc]
                · simp [execOp, e1, Instr.sliceAt, run_underlying ht, Instr.slice, this, run_sizeOf hc, hc0]
              · rw [hsub]
                show VR _ _ (.sl false s (0 / s) []) _
                rw [Nat.zero_div]; exact .sle _ _ _
          · have hrun := run_sliceBounds (P := P) (w := w) true m cap bl bh h0 h1 (by omega)
            have hfit : l.toNat * s + (hh - l).toNat * s ≤ cs.length := by
              rw [hlen, ← Nat.add_mul]
              exact Nat.mul_le_mul_right _ (by omega)
            have hdiv : (AB.sub cs (l.toNat * s) ((hh - l).toNat * s)).length / s = (hh - l).toNat := by
              rw [len_sub hfit]; exact Nat.mul_div_cancel _ hs1
            rw [hdiv]
            by_cases hcl : cap = l.toNat
            · subst hcl
              have hz : (hh - l).toNat = 0 := by omega
              refine ⟨.slice (some ⟨b, o, none⟩) (hh - l).toNat (l.toNat - l.toNat), fun _ _ _ _ => ?_, NR.mk rfl ?_ rfl⟩
              · have e3 : hh.toNat - l.toNat = (hh - l).toNat := by omega
                simp [execOp, e1, Instr.sliceAt, run_underlying ht, Instr.slice, hrun, run_sizeOf hc, e3]
              · rw [hz]
                have : AB.sub cs (l.toNat * s) (0 * s) = [] := by simp [AB.sub]
                rw [this]
                exact .sl false s 0 [] b o _ (fun _ => undef) Fl.nil (by simp) (by simp; omega) (Nat.zero_le _) (fun j c hj => by simp at hj) (fun j c hj => by simp at hj)
            · refine ⟨.slice (some ⟨b, o + l.toNat * s, none⟩) (hh - l).toNat (cap - l.toNat), fun _ _ _ _ => ?_, NR.mk rfl ?_ rfl⟩
              · have e3 : hh.toNat - l.toNat = (hh - l).toNat := by omega
                simp [execOp, e1, Instr.sliceAt, run_underlying ht, Instr.slice, hrun, run_sizeOf hc, hcl, e3, add_eq]
              · obtain ⟨u, u1, u2, u3⟩ := hat.sub (l.toNat * s) ((hh - l).toNat * s)
                exact .sl false s _ _ b _ _ u u3 (len_sub hfit) (by rw [len_sub hfit]; omega) (by omega) u1 u2
        · exact hv''.no.elim
    · rename_i b o m cap
      have hv'' : POK (sliceArr sz b o cap (ixV (xg true σ) lo 0) (ixV (xg true σ) hi m)) av := hv'
      unfold sliceArr at hv''
      split at hv''
      · rename_i l hh hl hhh
        obtain ⟨rfl, h0, h1, h2⟩ := hv''.prt
        have bl := map_bound (run_bound h hlo hl)
        have bh := map_bound (run_bound h hhi hhh)
        have hrun := run_sliceBounds (P := P) (w := w) true m cap bl bh h0 h1 h2
        have e3 : hh.toNat - l.toNat = (hh - l).toNat := by omega
        rcases VR.inv_arr' hb with e1 | ⟨rfl, rfl, e1⟩
        · by_cases hcl : cap = l.toNat
          · have e5 : arrOff o cap l.toNat sz = o := by unfold arrOff; rw [hcl, beq_self_eq_true]; rfl
            rw [e5]
            refine ⟨.slice (some ⟨b, o, none⟩) (hh - l).toNat (cap - l.toNat), fun _ _ _ _ => ?_, NR.mk rfl (.arr _ _ _ _) rfl⟩
            simp [execOp, e1, Instr.sliceAt, run_underlying ht, Instr.slice, hrun, run_sizeOf hc, ← hcl, e3]
            simp [hcl, ← e3]
          · have e5 : arrOff o cap l.toNat sz = o + l.toNat * sz := by
              unfold arrOff
              rw [show (cap == l.toNat) = false by simpa using hcl]; rfl
            rw [e5]
            refine ⟨.slice (some ⟨b, o + l.toNat * sz, none⟩) (hh - l).toNat (cap - l.toNat), fun _ _ _ _ => ?_, NR.mk rfl (.arr _ _ _ _) rfl⟩
            simp [execOp, e1, Instr.sliceAt, run_underlying ht, Instr.slice, hrun, run_sizeOf hc, hcl, e3, add_eq]
        · have h3 : l = 0 := by omega
          have h4 : hh = 0 := by omega
          subst h3; subst h4
          refine ⟨.slice none 0 0, fun _ _ _ _ => ?_, NR.mk rfl (by exact .arr0 _ _) rfl⟩
          simp [execOp, e1, Instr.sliceAt, run_underlying ht, Instr.slice, hrun, run_sizeOf hc]
      · exact hv''.no.elim
    · exact hv'.no.elim
theorem pv_sslice (h : Inv G n D σ a w) {op : Op} {ty : TypeId} {x : IX} {lo hi : Option IX} (hc : chkOp P op ty (.sslice x lo hi) = true) {av : AV} (hv : POK (pv (.sslice x lo hi) (xg true σ) σ) av) :
    ∃ v, runs P a op ty w v ∧ NR G w σ a av v := by
  cases op <;> first | (simp [chkOp] at hc; done) | skip
  rename_i t y l' h' m'
  cases m' with
  | some _ => simp [chkOp] at hc
  | none =>
    simp only [chkOp, Bool.and_eq_true] at hc
    obtain ⟨⟨⟨hy, hlo⟩, hhi⟩, ht⟩ := hc
    have ht := strT_eq ht
    have hb := BR.of_inv h hy
    have hv' : POK (sliceStrV (xg true σ) lo hi (xg true σ x)) av := hv
    generalize xg true σ x = xv at hb hv'
    unfold sliceStrV at hv'
    split at hv'
    · rename_i s
      have hv'' : POK (sliceStr s (ixV (xg true σ) lo 0) (ixV (xg true σ) hi s.length)) av := hv'
      unfold sliceStr at hv''
      split at hv''
      · rename_i l hh hl hhh
        obtain ⟨rfl, h0, h1, h2⟩ := hv''.prt
        have bl := map_bound (run_bound h hlo hl)
        have bh := map_bound (run_bound h hhi hhh)
        have e1 := VR.inv_str hb
        have hrun := run_sliceBounds (P := P) (w := w) false s.length s.length bl bh h0 h1 h2
        have hsz : (ByteArray.mk s.toArray).size = s.length := by simp [ByteArray.size]
        refine ⟨.string ⟨((s.drop l.toNat).take (hh - l).toNat).toArray⟩, fun _ _ _ _ => ?_, NR.mk rfl (.str _) rfl⟩
        have hex : (ByteArray.mk s.toArray).extract l.toNat hh.toNat = ⟨((s.drop l.toNat).take (hh - l).toNat).toArray⟩ := by
          apply ByteArray.ext
          rw [ByteArray.data_extract]
          apply Array.ext'
          simp only [Array.toList_extract, List.extract_eq_take_drop]
          congr 1
          omega
        simp [execOp, e1, Instr.sliceAt, run_underlying ht, Instr.slice, hsz, hrun, hex]
      · exact hv''.no.elim
    · exact hv'.no.elim
theorem asB_eq {b : Builtin} {c : Call} {ys : List Operand} {ts : List TypeId} (h : asB b c = some (ys, ts)) : c = { callee := .builtin b, args := ys.toArray, argTypes := ts.toArray } := by
  unfold asB at h
  split at h
  · rename_i b' hb
    split at h
    · rename_i hbb
      injection h with h; injection h with h1 h2
      subst hbb; subst h1; subst h2
      cases c; simp at hb; simp [hb]
    · cases h
  · cases h
theorem pv_alen {op : Op} {ty : TypeId} {m : Nat} (hc : chkOp P op ty (.alen m) = true) {av : AV} (hv : POK (pv (.alen m) (xg true σ) σ) av) :
  ∃ v, runs P a op ty w v ∧ NR G w σ a av v := by
 cases op <;> first | (simp [chkOp] at hc; done) | skip
 rename_i c
 have hav : av = .int .i64 m := POK.tot hv
 subst hav
 simp only [chkOp] at hc
 split at hc <;> try (cases hc; done)
 rename_i y ys t ts hb
 have hce := asB_eq hb
 subst hce
 unfold arrLen at hc
 split at hc <;> try (cases hc; done)
 rename_i m' e ht
 obtain rfl := beq_iff_eq.1 hc
 exact ⟨.int .i64 m, fun _ _ _ _ => by simp [execOp, resolve, invoke, builtin, Builtin.len_, run_underlying ht, goInt], NR.mk rfl (.int _ _) rfl⟩
theorem pv_len (h : Inv G n D σ a w) {op : Op} {ty : TypeId} {cls : Nat} {x : IX} (hc : chkOp P op ty (.len cls x) = true) {av : AV} (hv : POK (pv (.len cls x) (xg true σ) σ) av) :
    ∃ v, runs P a op ty w v ∧ NR G w σ a av v := by
  cases op <;> first | (simp [chkOp] at hc; done) | skip
  rename_i c
  simp only [chkOp] at hc
  split at hc <;> try (cases hc; done)
  rename_i y ys t ts hb
  have hce := asB_eq hb
  subst hce
  rw [Bool.and_eq_true] at hc
  obtain ⟨hy, hlt⟩ := hc
  have hb := BR.of_inv h hy
  have hv' : POK (lenV σ.s cls (xg true σ x)) av := hv
  generalize xg true σ x = xv at hb hv'
  have fin : ∀ (m : Nat), av = .int .i64 m → (∀ w', w' = w → (Builtin.len_ (t :: ts).toArray ty ((y :: ys).toArray.map a.eval)).run P w' = .ok (.int .i64 m) w') → ∃ v, runs P a (.call { callee := .builtin .len, args := (y :: ys).toArray, argTypes := (t :: ts).toArray }) ty w v ∧ NR G w σ a av v := by
    intro m hm hr
    subst hm
    exact ⟨.int .i64 m, fun _ _ _ _ => by simp [execOp, resolve, invoke, builtin] at hr ⊢; simp [hr], NR.mk rfl (.int _ _) rfl⟩
  unfold lenT at hlt
  split at hlt <;> try (cases hlt; done)
  all_goals
    rename_i ht
    obtain rfl := beq_iff_eq.1 hlt
    unfold lenV at hv'
    split at hv' <;> rename_i hcl <;> try (cases hcl; done)
  · rename_i ow s m cs
    refine fin m hv'.tot fun w' _ => ?_
    rcases VR.inv_sl hb with ⟨e0, rfl, _⟩ | ⟨b, o, cap, e1, _⟩
    · obtain ⟨_, _, e1⟩ := e0.ex
      simp [Builtin.len_, run_underlying ht, goInt, e1]
    · simp [Builtin.len_, run_underlying ht, goInt, e1]
  · rename_i b o m c
    refine fin m hv'.tot fun w' _ => ?_
    rcases VR.inv_arr' hb with e1 | ⟨rfl, _, e1⟩ <;> simp [Builtin.len_, run_underlying ht, goInt, e1]
  · exact hv'.no.elim
  · rename_i s
    refine fin s.length hv'.tot fun w' _ => ?_
    have e1 := VR.inv_str hb
    have hsz : (ByteArray.mk s.toArray).size = s.length := by simp [ByteArray.size]
    simp only [List.map_toArray, List.map_cons, e1]
    simp [Builtin.len_, run_underlying ht, goInt, hsz]
  · exact hv'.no.elim
  · refine fin 0 hv'.tot fun w' _ => ?_
    simp [Builtin.len_, run_underlying ht, goInt, VR.inv_nilm hb]
  · rename_i b
    unfold lenMap at hv'
    split at hv'
    · rename_i es hs
      refine fin es.length hv'.tot fun w' hw' => ?_
      subst hw'
      obtain ⟨_, _, ents, clock, hh, hsz, _⟩ := h.store b _ hs
      have hg : (getObj b).run P w' = .ok (.map ents clock) w' := by simp [getObj, Sem.run, hh]
      simp [Builtin.len_, run_underlying ht, goInt, VR.inv_mp hb, hg, hsz]
    · exact hv'.no.elim
  · exact hv'.no.elim
theorem minL_eq (mx : Bool) (k : IntKind) (h : Inv G n D σ a w) : ∀ (xs : List IX) (ys : List Operand), chkXs ys xs = true → ∀ (m r : Int), minL mx m (xs.map (xg true σ)) = some r →
  ((ys.map a.eval).foldlM (if mx then Builtin.max2 else Builtin.min2) (.int k m)).run P w = .ok (.int k r) w := by
 intro xs
 induction xs with
 | nil =>
  intro ys hc m r hr
  cases ys with
  | nil => simp [minL] at hr; subst hr; rfl
  | cons _ _ => simp [chkXs] at hc
 | cons x xs ih =>
  intro ys hc m r hr
  cases ys with
  | nil => simp [chkXs] at hc
  | cons y ys =>
   simp only [chkXs, Bool.and_eq_true] at hc
   have hb := BR.of_inv h hc.1
   simp only [List.map_cons] at hr ⊢
   generalize xg true σ x = xv at hb hr
   cases xv <;> simp only [minL] at hr <;> try (cases hr; done)
   rename_i k' q
   have e := VR.inv_int hb
   have := ih ys hc.2 _ r hr
   rw [List.foldlM_cons]
   simp only [Sem.run_bind, e]
   cases mx with
   | true =>
    have : (Builtin.max2 (.int k m) (.int k' q)).run P w = .ok (.int k (max m q)) w := by
     simp only [Builtin.max2, Sem.run_pure]
     congr 2
     omega
    simp_all
   | false =>
    have : (Builtin.min2 (.int k m) (.int k' q)).run P w = .ok (.int k (min m q)) w := by
     simp only [Builtin.min2, Sem.run_pure]
     congr 2
     omega
    simp_all
theorem pv_extract (h : Inv G n D σ a w) {op : Op} {ty : TypeId} {k : Nat} {x : IX} (hc : chkOp P op ty (.extract x k) = true) {av : AV} (hv : POK (pv (.extract x k) (xg true σ) σ) av) :
    ∃ v, runs P a op ty w v ∧ NR G w σ a av v := by
  cases op <;> first | (simp [chkOp] at hc; done) | skip
  rename_i y j
  simp only [chkOp, Bool.and_eq_true, beq_iff_eq] at hc
  obtain ⟨hy, rfl⟩ := hc
  have hb := BR.of_inv h hy
  have hv' : POK (extractV k (xg true σ x)) av := hv
  generalize xg true σ x = xv at hb hv'
  unfold extractV at hv'
  split at hv'
  · rename_i vs
    obtain ⟨us, e1, hl, hr⟩ := VR.inv_tup hb
    cases hk : vs[k]? with
    | none => rw [hk] at hv'; exact hv'.no.elim
    | some c =>
      rw [hk] at hv'
      obtain ⟨rfl, hi⟩ := ckV_ok hv'
      have hlt : k < us.size := by rw [hl]; exact (List.getElem?_eq_some_iff.1 hk).1
      have hu := Array.getElem?_eq_getElem hlt
      exact ⟨us[k], fun _ _ _ _ => by simp [execOp, e1, Instr.extract, hu], NR.mk hi (hr k c _ hk hu).view (view_view _)⟩
  · exact hv'.no.elim
end
end Go.AB
end

section
namespace Go.AB
open Go
theorem byteOf_some {a : AV} {c : UInt8} (h : byteOf a = some c) : a = .int .u8 c.toNat := by
  unfold byteOf at h
  split at h
  · rename_i n
    split at h
    · rename_i hn
      injection h with h
      subst h
      rw [UInt8.toNat_ofNat']
      congr 1
      omega
    · cases h
  · cases h
theorem bytesOf_some : ∀ {cs : List AV} {l : List UInt8}, bytesOf cs = some l → cs = l.map fun c => .int .u8 c.toNat
 | [], l, h => by
  unfold bytesOf at h
  injection h with h
  subst h; rfl
 | a :: r, l, h => by
  unfold bytesOf at h
  cases ha : byteOf a with
  | none => rw [ha] at h; cases h
  | some c =>
   cases hr : bytesOf r with
   | none => rw [ha, hr] at h; cases h
   | some m =>
    rw [ha, hr] at h
    injection h with h
    subst h
    rw [byteOf_some ha, bytesOf_some hr]; rfl
section
variable {P : Program} {G : Gh} {n : Nat} {D : List Deferred} {σ : St} {a : Act} {w : World}
theorem pv_loadR (h : Inv G n D σ a w) {op : Op} {ty : TypeId} {z : List AV} {m : Bool} {x : IX} (hc : chkOp P op ty (.loadR z m x) = true) {av : AV} (hv : POK (pv (.loadR z m x) (xg true σ) σ) av) :
  ∃ v, runs P a op ty w v ∧ NR G w σ a av v := by
 have hc' : chkOp P op ty (.load z.length m x) = true := by
  cases op <;> first | exact hc | (simp [chkOp] at hc; done)
 refine pv_load h hc' ?_
 have hv' : POK (loadP z m σ.s (xg true σ x)) av := hv
 show POK (loadV m (rd σ (xg true σ x) z.length)) av
 generalize xg true σ x = xv at hv'
 cases xv <;> first | exact hv'.no.elim | skip
 rename_i b off
 have hv2 : POK (loadS z m off (σ.s b)) av := hv'
 show POK (loadV m (rdSO z.length off (σ.s b))) av
 cases hs : σ.s b with
 | none => rw [hs] at hv2; exact hv2.no.elim
 | some so =>
  cases so with
  | map es => rw [hs] at hv2; exact hv2.no.elim
  | cells cs =>
   rw [hs] at hv2
   have hv3 : POK (ckP (off + z.length ≤ cs.length) (aggOf m (pad z (views (sub cs off z.length))))) av := hv2
   unfold ckP at hv3
   cases hi : isV (aggOf m (pad z (views (sub cs off z.length)))) with
   | false => rw [hi] at hv3; exact hv3.no.elim
   | true =>
    rw [hi] at hv3
    obtain ⟨rfl, hle⟩ := hv3.prt
    have hlen : (views (AB.sub cs off z.length)).length = z.length := by
     simp only [AB.views, List.length_map, AB.sub, List.length_take, List.length_drop]; omega
    have hpad : pad z (views (AB.sub cs off z.length)) = views (AB.sub cs off z.length) := by
     unfold pad; rw [hlen, beq_self_eq_true]; rfl
    rw [hpad] at hi ⊢
    show POK (loadV m (rdCells z.length off cs)) _
    unfold rdCells
    rw [decide_eq_true hle]
    show POK (ckV (aggOf m (views (AB.sub cs off z.length)))) _
    unfold ckV
    rw [hi]
    exact .inl rfl
theorem pv_loadI (h : Inv G n D σ a w) {op : Op} {ty : TypeId} {k : IntKind} {x : IX} (hc : chkOp P op ty (.loadI k x) = true) {av : AV} (hv : POK (pv (.loadI k x) (xg true σ) σ) av) :
  ∃ v, runs P a op ty w v ∧ NR G w σ a av v := by
 have hc' : chkOp P op ty (.load 1 false x) = true := by
  cases op <;> first | (simp [chkOp] at hc; done) | skip
  simp only [chkOp, Bool.and_eq_true] at hc ⊢
  exact ⟨⟨⟨hc.1.1, hc.1.2⟩, rfl⟩, hc.2⟩
 refine pv_load h hc' ?_
 have hv' : POK (loadIP k σ.s (xg true σ x)) av := hv
 show POK (loadV false (rd σ (xg true σ x) 1)) av
 generalize xg true σ x = xv at hv'
 cases xv <;> first | exact hv'.no.elim | skip
 rename_i b off
 obtain ⟨rfl, hcc⟩ := POK.prt (show POK (.prt (loadIc k off (σ.s b)) (.int k (loadIv off (σ.s b)))) av from hv')
 show POK (loadV false (rdSO 1 off (σ.s b))) _
 cases hs : σ.s b with
 | none => rw [hs] at hcc; exact hcc.elim
 | some so =>
  cases so with
  | map es => rw [hs] at hcc; exact hcc.elim
  | cells cs =>
   rw [hs] at hcc
   obtain ⟨m, hm⟩ := hcc
   have hlt := (List.getElem?_eq_some_iff.1 hm).1
   show POK (loadV false (rdCells 1 off cs)) (.int k (intOf cs[off]?))
   rw [hm]
   unfold rdCells
   rw [decide_eq_true (by omega)]
   have e : AB.sub cs off 1 = [.int k m] := by
    unfold AB.sub
    rw [List.drop_eq_getElem_cons hlt]
    have := (List.getElem?_eq_some_iff.1 hm).2
    rw [this]; rfl
   rw [e]
   exact .inl rfl
theorem run_convert_bytes_empty {P : Program} (w : World) (src e : TypeId) (hs : P.underlying src = some (.slice e)) (he : P.underlying e = some (.int .u8)) (ad : Addr) (cap : Nat) :
  ∀ dst, P.underlying dst = some .string → (convert src dst (.slice (some ad) 0 cap)).run P w = .ok (.string ByteArray.empty) w := by
 intro dst hd
 have hl : (loadCells ad 0).run P w = .ok (([] : List Int).map (Value.int .u8)).toArray w := by
  have := run_loadCells_list (P := P) w ad [] (fun j v hj => by simp at hj)
  simpa using this
 rw [run_convert_bytes_string w src dst e _ 0 cap hs he hd, run_bytesToString w _ 0 cap [] hl, foldl_push_bytes]
 simp [ByteArray.empty, ByteArray.emptyWithCapacity]
theorem pv_cvtStr (h : Inv G n D σ a w) {op : Op} {ty : TypeId} {x : IX} (hc : chkOp P op ty (.cvtStr x) = true) {av : AV} (hv : POK (pv (.cvtStr x) (xg true σ) σ) av) :
    ∃ v, runs P a op ty w v ∧ NR G w σ a av v := by
  cases op <;> first | (simp [chkOp] at hc; done) | skip
  rename_i s t y
  simp only [chkOp, Bool.and_eq_true] at hc
  obtain ⟨hy, hc⟩ := hc
  split at hc <;> try (cases hc; done)
  rename_i e hs ht
  split at hc <;> try (cases hc; done)
  rename_i he
  have hb := BR.of_inv h hy
  have hv' : POK (cvtStrV (xg true σ x)) av := hv
  generalize xg true σ x = xv at hb hv'
  unfold cvtStrV at hv'
  split at hv' <;> try (exact hv'.no.elim)
  rename_i ow sz m cs
  cases hsz : sz == 1 with
  | false => rw [hsz] at hv'; exact hv'.no.elim
  | true =>
  rw [hsz] at hv'
  obtain rfl := beq_iff_eq.1 hsz
  have hv2 : POK (strPR (bytesOf cs)) av := hv'
  cases hbs : bytesOf cs with
  | none => rw [hbs] at hv2; exact hv2.no.elim
  | some l =>
  rw [hbs] at hv2
  obtain rfl := hv2.tot
  obtain rfl := bytesOf_some hbs
  refine ⟨.string ⟨l.toArray⟩, fun _ _ _ _ => ?_, NR.mk rfl (.str l) rfl⟩
  rcases VR.inv_sl hb with ⟨e1, _, hl0⟩ | ⟨b, off, cap, e1, hlen, _, _, u, u1, u2, _⟩
  · have : l = [] := by simpa using hl0
    subst this
    rcases e1 with e1 | ⟨_, ad, cap, e1⟩
    · have := run_convert_bytes_nil (P := P) w s e hs he 0 0 t ht
      simp [execOp, e1, this]
      rfl
    · have := run_convert_bytes_empty (P := P) w s e hs he ad cap t ht
      simp [execOp, e1, this]
      rfl
  · have hm : l.length = m := by simpa using hlen
    have := run_convert_bytes_arg (P := P) w s e hs he b off m cap (l.map fun c => (c.toNat : Int)) (by simpa using hm) (fun i hi => by
      have hil : i < l.length := by omega
      have hc0 : (l.map fun c => AV.int .u8 c.toNat)[i]? = some (.int .u8 l[i].toNat) := by simp [hil]
      rw [u1 i _ hc0, VR.inv_int (u2 i _ hc0)]
      simp [List.getD_eq_getElem?_getD, hil]) t ht
    have hs2 : strOfNums (l.map fun c => (c.toNat : Int)) = ⟨l.toArray⟩ := by
      unfold strOfNums
      congr 2
      simp [Function.comp_def]
    rw [hs2] at this
    simp [execOp, e1, this]
end
theorem zipFold (off : Nat) : ∀ (l : List Value) (s : Nat) (cells : Array Value),
    ((l.zipIdx s).foldl (fun cs (x : Value × Nat) => cs.setIfInBounds (off + x.2) x.1) cells).size = cells.size ∧
    ∀ k, ((l.zipIdx s).foldl (fun cs (x : Value × Nat) => cs.setIfInBounds (off + x.2) x.1) cells)[k]? =
      if off + s ≤ k ∧ k < off + s + l.length ∧ k < cells.size then l[k - (off + s)]? else cells[k]? := by
  intro l
  induction l with
  | nil =>
    intro s cells
    refine ⟨rfl, fun k => ?_⟩
    rw [if_neg (by simp; omega)]; rfl
  | cons v l ih =>
    intro s cells
    rw [List.zipIdx_cons, List.foldl_cons]
    obtain ⟨h1, h2⟩ := ih (s + 1) (cells.setIfInBounds (off + s) v)
    refine ⟨by rw [h1]; simp, fun k => ?_⟩
    rw [h2 k]
    simp only [Array.size_setIfInBounds, List.length_cons]
    by_cases hk : k = off + s
    · subst hk
      rw [if_neg (by omega)]
      by_cases hs : off + s < cells.size
      · rw [if_pos ⟨by omega, by omega, hs⟩]
        simp [hs]
      · rw [if_neg (by omega), Array.getElem?_eq_none (by simp; omega), Array.getElem?_eq_none (by omega)]
    · by_cases hc : off + (s + 1) ≤ k ∧ k < off + (s + 1) + l.length ∧ k < cells.size
      · rw [if_pos hc, if_pos (by omega)]
        have : k - (off + s) = (k - (off + (s + 1))) + 1 := by omega
        rw [this, List.getElem?_cons_succ]
      · rw [if_neg hc, if_neg (by omega), Array.getElem?_setIfInBounds_ne (by omega)]
section
variable {P : Program} {G : Gh} {n : Nat} {D : List Deferred} {σ : St} {a : Act} {w : World}
def Row (w : World) (R : Nat → Nat) (cs : List AV) (vs : Array Value) : Prop := vs.size = cs.length ∧ (∀ (j : Nat) (c : AV) (u : Value), cs[j]? = some c → vs[j]? = some u → VR w R c u) ∧ Fl cs
theorem cellsOf_row {R : Nat → Nat} {av : AV} {v : Value} (hi : isV av = true) (h : VR w R av v) : Row w R (cellsOf av) v.cells := by
  have key : (∃ cs, av = .agg cs) ∨ (cellsOf av = [av] ∧ v.cells = #[v] ∧ flatV av = true) := by
    cases h <;> first | exact .inl ⟨_, rfl⟩ | exact .inr ⟨rfl, rfl, rfl⟩ | (rename_i hb _; cases hb <;> exact .inr ⟨rfl, rfl, rfl⟩) | (rename_i hone; exact .inr ⟨rfl, by cases v <;> first | rfl | (cases hone; done), rfl⟩) | (simp [isV] at hi)
  rcases key with ⟨cs, rfl⟩ | ⟨h1, h2, h3⟩
  · obtain ⟨vs, rfl, hl, hr, hf⟩ := VR.inv_agg h
    exact ⟨hl, hr, hf⟩
  · rw [h1, h2]
    refine ⟨rfl, fun j c u hc hu => ?_, fun c hc => ?_⟩
    rotate_left
    · rw [List.mem_singleton] at hc; subst hc; exact h3
    cases j with
    | succ j => simp at hc
    | zero => simp at hc hu; subst hc; subst hu; exact h
theorem Row.views {R : Nat → Nat} {cs : List AV} {vs : Array Value} (h : Row w R cs vs) : Row w R (views cs) vs := by
 refine ⟨by simp [AB.views, h.1], fun j c u hc hu => ?_, h.2.2.views⟩
 rw [views_get] at hc
 cases hj : cs[j]? with
 | none => rw [hj] at hc; cases hc
 | some c' =>
  rw [hj] at hc; simp at hc
  rw [← hc]; exact (h.2.1 j c' u hj hu).view
theorem setAt_get (cs news : List AV) (off k : Nat) (h : off + news.length ≤ cs.length) : (setAt cs off news)[k]? = if off ≤ k ∧ k < off + news.length then news[k - off]? else cs[k]? := by
  unfold setAt
  rw [List.append_assoc]
  by_cases h1 : k < off
  · rw [if_neg (by omega), List.getElem?_append_left (by simp; omega), List.getElem?_take, if_pos h1]
  · rw [List.getElem?_append_right (by simp; omega)]
    have hl : (cs.take off).length = off := by simp; omega
    rw [hl]
    by_cases h2 : k < off + news.length
    · rw [if_pos ⟨by omega, h2⟩, List.getElem?_append_left (by omega)]
    · rw [if_neg (by omega), List.getElem?_append_right (by omega), List.getElem?_drop]
      congr 1
      omega
theorem setAt_len (cs news : List AV) (off : Nat) (h : off + news.length ≤ cs.length) : (setAt cs off news).length = cs.length := by
 unfold setAt; simp; omega
theorem Fl.setAt {cs news : List AV} (h : Fl cs) (k : Fl news) (off : Nat) : Fl (setAt cs off news) := by
  intro c hc
  unfold AB.setAt at hc
  rcases List.mem_append.1 hc with hc | hc
  · rcases List.mem_append.1 hc with hc | hc
    · exact h c (List.mem_of_mem_take hc)
    · exact k c hc
  · exact h c (List.mem_of_mem_drop hc)
theorem FlT.setAt {t : Nat} {cs news : List AV} (h : FlT t cs) (k : Fl news) (off : Nat) : FlT t (AB.setAt cs off news) := by
  intro c hc
  unfold AB.setAt at hc
  simp only [List.mem_append] at hc
  rcases hc with (hc | hc) | hc
  · exact h c (List.mem_of_mem_take hc)
  · exact .inl (k c hc)
  · exact h c (List.mem_of_mem_drop hc)
theorem Row.setAt {R : Nat → Nat} {cs news : List AV} {vs us : Array Value} {off : Nat} (h : Row w R cs vs) (k : Row w R news us) (hfit : off + news.length ≤ cs.length) :
    Row w R (setAt cs off news) (us.zipIdx.foldl (fun cs (x : Value × Nat) => cs.setIfInBounds (off + x.2) x.1) vs) := by
  have e : us.zipIdx.foldl (fun cs (x : Value × Nat) => cs.setIfInBounds (off + x.2) x.1) vs = (us.toList.zipIdx 0).foldl (fun cs (x : Value × Nat) => cs.setIfInBounds (off + x.2) x.1) vs := by
    rw [← Array.foldl_toList, Array.toList_zipIdx]
  rw [e]
  obtain ⟨h1, h2⟩ := zipFold off us.toList 0 vs
  refine ⟨by rw [h1, setAt_len _ _ _ hfit, h.1], fun j c u hc hu => ?_, Fl.setAt h.2.2 k.2.2 off⟩
  rw [h2 j] at hu
  rw [setAt_get _ _ _ _ hfit] at hc
  have hus := k.1
  have hvs := h.1
  by_cases hj : off ≤ j ∧ j < off + news.length
  · rw [if_pos hj] at hc
    rw [if_pos (by simp; omega)] at hu
    exact k.2.1 (j - off) c u hc (by simpa using hu)
  · rw [if_neg hj] at hc
    rw [if_neg (by simp; omega)] at hu
    exact h.2.1 j c u hc hu
theorem fill_sound (h : Inv G n D σ a w) {f : IX → AV} (hf : ∀ (o : Operand) (x : IX), chkX o x = true → isV (f x) = true → VR w G.R (f x) (a.eval o)) (place : Nat → Option (Nat × Nat)) :
  ∀ (qs : List (Nat × Operand)) (ps : List (Nat × Nat × IX)) (cs ds : List AV) (vs : Array Value),
   (qs.length = ps.length ∧ ∀ (j : Nat) (q : Nat × Operand) (p : Nat × Nat × IX), qs[j]? = some q → ps[j]? = some p → place q.1 = some (p.1, p.2.1) ∧ chkX q.2 p.2.2 = true) →
   Row w G.R cs vs → fill f cs ps = some ds → ∃ us, Instr.fill place vs (qs.map fun q => (q.1, a.eval q.2)) = some us ∧ Row w G.R ds us := by
 intro qs
 induction qs with
 | nil =>
  intro ps cs ds vs hc hr hfl
  cases ps with
  | nil => injection hfl with hfl; subst hfl; exact ⟨vs, rfl, hr⟩
  | cons _ _ => simp at hc
 | cons q qs ih =>
  intro ps cs ds vs hc hr hfl
  cases ps with
  | nil => simp at hc
  | cons p ps =>
   obtain ⟨off, m, x⟩ := p
   obtain ⟨hlen, hall⟩ := hc
   obtain ⟨hp, hx⟩ := hall 0 q (off, m, x) rfl rfl
   simp only [fill] at hfl
   cases hcond : (isV (f x) && ((views (cellsOf (f x))).length == m && decide (off + m ≤ cs.length))) with
   | false => rw [hcond] at hfl; cases hfl
   | true =>
    rw [hcond] at hfl
    simp only [Bool.and_eq_true, beq_iff_eq, decide_eq_true_eq] at hcond
    obtain ⟨hi, hm, hfit⟩ := hcond
    have hrow := (cellsOf_row hi (hf q.2 x hx hi)).views
    have hsz : (a.eval q.2).cells.size = m := by rw [hrow.1, hm]
    have hcs : off + (a.eval q.2).cells.size ≤ vs.size := by rw [hsz, hr.1]; exact hfit
    have hr' := hr.setAt hrow (off := off) (by rw [hm]; exact hfit)
    obtain ⟨us, h1, h2⟩ := ih ps _ ds _ ⟨by simpa using hlen, fun j q' p' hq hp' => hall (j + 1) q' p' (by simpa using hq) (by simpa using hp')⟩ hr' hfl
    refine ⟨us, ?_, h2⟩
    simp only [List.map_cons, Instr.fill, hp]
    rw [if_neg (by simp [hsz]; omega)]
    exact h1
theorem partsS_all {fs : Array Field} : ∀ (qs : List (Nat × Operand)) (ps : List (Nat × Nat × IX)), partsS P fs qs ps = true →
    qs.length = ps.length ∧ ∀ (j : Nat) (q : Nat × Operand) (p : Nat × Nat × IX), qs[j]? = some q → ps[j]? = some p → (∃ f, fs[q.1]? = some f ∧ f.offset = p.1 ∧ sizeIs P f.type p.2.1 = true) ∧ chkX q.2 p.2.2 = true := by
  intro qs
  induction qs with
  | nil => intro ps hp; cases ps with
    | nil => exact ⟨rfl, fun j q p hq => by simp at hq⟩
    | cons _ _ => simp [partsS] at hp
  | cons q qs ih => intro ps hp; cases ps with
    | nil => simp [partsS] at hp
    | cons p ps =>
      obtain ⟨off, m, x⟩ := p
      obtain ⟨i, o⟩ := q
      simp only [partsS, Bool.and_eq_true] at hp
      obtain ⟨⟨h1, h2⟩, h3⟩ := hp
      obtain ⟨h4, h5⟩ := ih ps h3
      refine ⟨by simp [h4], fun j q' p' hq hp' => ?_⟩
      cases j with
      | zero =>
        simp at hq hp'
        subst hq; subst hp'
        split at h1
        · rename_i f hf
          simp only [Bool.and_eq_true, beq_iff_eq] at h1
          exact ⟨⟨f, hf, h1.1, h1.2⟩, h2⟩
        · cases h1
      | succ j => exact h5 j q' p' (by simpa using hq) (by simpa using hp')
theorem partsA_all {sz : Nat} : ∀ (qs : List (Nat × Operand)) (ps : List (Nat × Nat × IX)), partsA sz qs ps = true →
  qs.length = ps.length ∧ ∀ (j : Nat) (q : Nat × Operand) (p : Nat × Nat × IX), qs[j]? = some q → ps[j]? = some p → (q.1 * sz = p.1 ∧ p.2.1 = sz) ∧ chkX q.2 p.2.2 = true := by
 intro qs
 induction qs with
 | nil => intro ps hp; cases ps with
  | nil => exact ⟨rfl, fun j q p hq => by simp at hq⟩
  | cons _ _ => simp [partsA] at hp
 | cons q qs ih => intro ps hp; cases ps with
  | nil => simp [partsA] at hp
  | cons p ps =>
   obtain ⟨off, m, x⟩ := p
   obtain ⟨i, o⟩ := q
   simp only [partsA, Bool.and_eq_true, beq_iff_eq] at hp
   obtain ⟨⟨⟨h0, h1⟩, h2⟩, h3⟩ := hp
   obtain ⟨h4, h5⟩ := ih ps h3
   refine ⟨by simp [h4], fun j q' p' hq hp' => ?_⟩
   cases j with
   | zero => simp at hq hp'; subst hq; subst hp'; exact ⟨⟨h0, h1⟩, h2⟩
   | succ j => exact h5 j q' p' (by simpa using hq) (by simpa using hp')
theorem zeroIs_eq {t : TypeId} {z : List AV} (h : zeroIs P t z = true) : ∃ i v, P.info? t = some i ∧ i.zero = some v ∧ i.size = z.length ∧ (∀ (w : World) (R : Nat → Nat), Row w R z v.cells) ∧ (∀ (j : Nat) (c : AV) (u : Value), z[j]? = some c → v.cells[j]? = some u → cR u c = true) := by
  unfold zeroIs at h
  split at h
  · rename_i i hi
    split at h
    · rename_i v hv
      simp only [Bool.and_eq_true, beq_iff_eq] at h
      obtain ⟨h1, h2⟩ := cRs_get h.1
      exact ⟨i, v, hi, hv, h.2, fun w R => ⟨by simpa using h1, fun j c u hc hu => cR_vr (h2 j c u hc (by simpa using hu)) w R, cRs_fl h.1⟩, fun j c u hc hu => h2 j c u hc (by simpa using hu)⟩
    · cases h
  · cases h
theorem mapM_places (w : World) : ∀ (fs : List Field), (∀ f ∈ fs, (P.info? f.type).isSome = true) →
  (fs.mapM (m := Sem) fun f => Prod.mk f.offset <$> sizeOf f.type).run P w = .ok (fs.map fun f => (f.offset, P.cellsOf f.type)) w := by
 intro fs
 induction fs with
 | nil => intro _; rfl
 | cons f fs ih =>
  intro h
  have hf := h f (by simp)
  cases hi : P.info? f.type with
  | none => rw [hi] at hf; cases hf
  | some i =>
   simp [List.mapM_cons, sizeOf, typeInfo, hi, Program.cellsOf] at ih ⊢
   rw [ih fun f hf => h f (by simp [hf])]
   simp
theorem pv_build (h : Inv G n D σ a w) {op : Op} {ty : TypeId} {z : List AV} {ps : List (Nat × Nat × IX)} (hc : chkOp P op ty (.build z ps) = true) {av : AV} (hv : POK (pv (.build z ps) (xg true σ) σ) av) :
    ∃ v, runs P a op ty w v ∧ NR G w σ a av v := by
  cases op <;> first | (simp [chkOp] at hc; done) | skip
  rename_i t qs
  simp only [chkOp, Bool.and_eq_true] at hc
  obtain ⟨hz, hc⟩ := hc
  obtain ⟨ti, zv, hti, hzv, hsz, hrow, _⟩ := zeroIs_eq hz
  have hv' : POK (buildV (fill (xg true σ) z ps)) av := hv
  cases hfl : fill (xg true σ) z ps with
  | none => rw [hfl] at hv'; exact hv'.no.elim
  | some ds =>
    rw [hfl] at hv'
    have hav : av = .agg ds := hv'.tot
    subst hav
    have hzr : (zeroValue t).run P w = .ok zv w := by simp [zeroValue, typeInfo, hti, hzv]
    have hf : ∀ (o : Operand) (x : IX), chkX o x = true → isV (xg true σ x) = true → VR w G.R (xg true σ x) (a.eval o) := fun o x hx hi => (BR.of_inv h hx).vr hi
    split at hc <;> try (cases hc; done)
    · rename_i fs ht
      rw [Bool.and_eq_true] at hc
      obtain ⟨hp, hall⟩ := hc
      obtain ⟨hl, hp⟩ := partsS_all _ _ hp
      have hplaces : (fs.mapM (m := Sem) fun f => Prod.mk f.offset <$> sizeOf f.type).run P w = .ok (fs.map fun f => (f.offset, P.cellsOf f.type)) w := by
        have := mapM_places (P := P) w fs.toList (fun f hf => by
          have := Array.all_eq_true'.1 hall f (by simpa using hf)
          exact this)
        rw [Array.mapM_eq_mapM_toList]
        simp only [Sem.run_map, this, Result.andThen_ok]
        congr 1
        apply Array.ext'
        simp
      obtain ⟨us, h1, h2⟩ := fill_sound h hf ((fs.map fun f => (f.offset, P.cellsOf f.type))[·]?) qs.toList ps z ds zv.cells
        ⟨hl, fun j q p hq hp' => by
          obtain ⟨⟨f, hf1, hf2, hf3⟩, hx⟩ := hp j q p hq hp'
          obtain ⟨i, hi1, hi2⟩ := sizeIs_eq hf3
          refine ⟨?_, hx⟩
          simp [hf1, hf2, Program.cellsOf, hi1, hi2]⟩ (hrow w G.R) hfl
      refine ⟨.agg us, fun _ _ _ _ => ?_, NR.mk rfl (.agg _ _ h2.2.2 h2.1 h2.2.1) rfl⟩
      simp only [Array.getElem?_map] at h1
      simp [execOp, Instr.build, hzr, run_underlying ht, hplaces, h1]
    · rename_i m e ht
      split at hc <;> try (cases hc; done)
      rename_i ei hei
      obtain ⟨hl, hp⟩ := partsA_all _ _ hc
      obtain ⟨us, h1, h2⟩ := fill_sound h hf (fun i => some (i * ei.size, ei.size)) qs.toList ps z ds zv.cells
        ⟨hl, fun j q p hq hp' => by
          obtain ⟨⟨e1, e2⟩, hx⟩ := hp j q p hq hp'
          exact ⟨by rw [e1, e2], hx⟩⟩ (hrow w G.R) hfl
      refine ⟨.agg us, fun _ _ _ _ => ?_, NR.mk rfl (.agg _ _ h2.2.2 h2.1 h2.2.1) rfl⟩
      simp [execOp, Instr.build, hzr, run_underlying ht, sizeOf, typeInfo, hei, h1]
theorem argsV_sound (h : Inv G n D σ a w) {f : IX → AV} (hf : ∀ (o : Operand) (x : IX), chkX o x = true → isV (f x) = true → VR w G.R (f x) (a.eval o)) :
    ∀ (os : List Operand) (xs : List IX) (as : List AV), chkXs os xs = true → argsV f xs = some as → as.length = os.length ∧ (∀ c ∈ as, isV c = true ∧ view c = c) ∧
      ∀ (j : Nat) (c : AV) (u : Value), as[j]? = some c → (os.map a.eval)[j]? = some u → VR w G.R c u := by
  intro os
  induction os with
  | nil =>
    intro xs as hc hv
    cases xs with
    | nil => injection hv with hv; subst hv; exact ⟨rfl, by simp, fun j c u hc => by simp at hc⟩
    | cons _ _ => simp [chkXs] at hc
  | cons o os ih =>
    intro xs as hc hv
    cases xs with
    | nil => simp [chkXs] at hc
    | cons x xs =>
      simp only [chkXs, Bool.and_eq_true] at hc
      simp only [argsV] at hv
      cases hr : argsV f xs with
      | none => rw [hr] at hv; simp [argC] at hv
      | some as' =>
        rw [hr] at hv
        simp only [argC] at hv
        cases hi : isV (f x) with
        | false => rw [hi] at hv; cases hv
        | true =>
          rw [hi] at hv
          injection hv with hv; subst hv
          obtain ⟨h1, h2, h3⟩ := ih xs as' hc.2 hr
          refine ⟨by simp [h1], ?_, fun j c u hcj hu => ?_⟩
          · intro c hcm
            rcases List.mem_cons.1 hcm with rfl | hcm
            · exact ⟨isV_view hi, view_view _⟩
            · exact h2 c hcm
          · cases j with
            | zero => simp at hcj hu; subst hcj; subst hu; exact (hf o x hc.1 hi).view
            | succ j => exact h3 j c u (by simpa using hcj) (by simpa using hu)
theorem pv_makeFn (h : Inv G n D σ a w) {op : Op} {ty : TypeId} {fi : Nat} {fs cs : List IX} (hc : chkOp P op ty (.makeFn fi fs cs) = true) {av : AV} (hv : POK (pv (.makeFn fi fs cs) (xg true σ) σ) av) :
    ∃ v, runs P a op ty w v ∧ NR G w σ a av v := by
  cases op <;> first | (simp [chkOp] at hc; done) | skip
  rename_i g c d
  cases g <;> first | (simp [chkOp] at hc; done) | skip
  rename_i g
  simp only [chkOp, Bool.and_eq_true, beq_iff_eq] at hc
  obtain ⟨⟨rfl, h1⟩, h2⟩ := hc
  have hf : ∀ (o : Operand) (x : IX), chkX o x = true → isV (xg true σ x) = true → VR w G.R (xg true σ x) (a.eval o) := fun o x hx hi => (BR.of_inv h hx).vr hi
  have hv' : POK (makeFnV fi (argsV (xg true σ) fs) (argsV (xg true σ) cs)) av := hv
  unfold makeFnV at hv'
  split at hv'
  · rename_i x y hx hy
    have hav := hv'.tot
    subst hav
    obtain ⟨a1, _, a3⟩ := argsV_sound h hf _ _ _ h1 hx
    obtain ⟨b1, _, b3⟩ := argsV_sound h hf _ _ _ h2 hy
    refine ⟨.func (.func fi) (c.map a.eval) (d.map a.eval), fun _ _ _ _ => by simp [execOp, Instr.makeFunc], NR.mk rfl (.fn fi x y _ _ ?_ (fun j c' u hc' hu => a3 j c' u hc' ?_) ?_ (fun j c' u hc' hu => b3 j c' u hc' ?_)) rfl⟩
    · simpa using a1.symm
    · simpa using hu
    · simpa using b1.symm
    · simpa using hu
  · exact hv'.no.elim
theorem pv_minmax (h : Inv G n D σ a w) {op : Op} {ty : TypeId} {mx : Bool} {xs : List IX} (hc : chkOp P op ty (.minmax mx xs) = true) {av : AV} (hv : POK (pv (.minmax mx xs) (xg true σ) σ) av) :
  ∃ v, runs P a op ty w v ∧ NR G w σ a av v := by
 have key : ∀ (ys : List Operand), chkXs ys xs = true → ∃ (k : IntKind) (m : Int) (y : Operand) (ys' : List Operand), ys = y :: ys' ∧ av = .int k m ∧ ∃ m0, a.eval y = .int k m0 ∧
   ((ys'.map a.eval).foldlM (if mx then Builtin.max2 else Builtin.min2) (.int k m0)).run P w = .ok (.int k m) w := by
  intro ys hx
  have hv' : POK (minmaxV mx (xs.map (xg true σ))) av := hv
  cases xs with
  | nil => exact hv'.no.elim
  | cons x xs =>
   cases ys with
   | nil => simp [chkXs] at hx
   | cons y ys =>
    simp only [chkXs, Bool.and_eq_true] at hx
    have hb := BR.of_inv h hx.1
    simp only [List.map_cons] at hv'
    generalize xg true σ x = xv at hb hv'
    cases xv <;> simp only [minmaxV] at hv' <;> try (exact hv'.no.elim)
    rename_i k m0
    cases hr : minL mx m0 (xs.map (xg true σ)) with
    | none => rw [hr] at hv'; exact hv'.no.elim
    | some r =>
     rw [hr] at hv'
     have hav : av = .int k r := hv'.tot
     exact ⟨k, r, y, ys, rfl, hav, m0, VR.inv_int hb, minL_eq mx k h xs ys hx.2 m0 r hr⟩
 cases op <;> first | (cases mx <;> simp [chkOp] at hc; done) | skip
 rename_i c
 cases mx with
 | true =>
  simp only [chkOp] at hc
  split at hc <;> try (cases hc; done)
  rename_i ys ts hb
  have hce := asB_eq hb
  subst hce
  obtain ⟨k, m, y, ys', rfl, rfl, m0, e0, hr⟩ := key ys hc
  refine ⟨.int k m, fun _ _ _ _ => ?_, NR.mk rfl (.int _ _) rfl⟩
  simp only [if_true] at hr
  simp [execOp, resolve, invoke, builtin, Builtin.max_, e0, hr]
 | false =>
  simp only [chkOp] at hc
  split at hc <;> try (cases hc; done)
  rename_i ys ts hb
  have hce := asB_eq hb
  subst hce
  obtain ⟨k, m, y, ys', rfl, rfl, m0, e0, hr⟩ := key ys hc
  refine ⟨.int k m, fun _ _ _ _ => ?_, NR.mk rfl (.int _ _) rfl⟩
  simp only [Bool.false_eq_true, if_false] at hr
  simp [execOp, resolve, invoke, builtin, Builtin.min_, e0, hr]
theorem pv_cap (h : Inv G n D σ a w) {op : Op} {ty : TypeId} {x : IX} (hc : chkOp P op ty (.cap x) = true) {av : AV} (hv : POK (pv (.cap x) (xg true σ) σ) av) :
    ∃ v, runs P a op ty w v ∧ NR G w σ a av v := by
  cases op <;> first | (simp [chkOp] at hc; done) | skip
  rename_i c
  simp only [chkOp] at hc
  split at hc <;> try (cases hc; done)
  rename_i y ys t ts hb
  have hce := asB_eq hb
  subst hce
  simp only [Bool.and_eq_true] at hc
  obtain ⟨hy, hsl⟩ := hc
  have hv' : POK (capV (xg true σ x)) av := hv
  have hbx := BR.of_inv h hy
  generalize xg true σ x = xv at hbx hv'
  cases he : elemOfSl P t with
  | none => rw [he] at hsl; cases hsl
  | some e =>
  have ht := elemOfSl_eq he
  unfold capV at hv'
  split at hv'
  · rename_i b o l cap
    rw [hv'.tot]
    refine ⟨.int .i64 cap, fun _ _ _ _ => ?_, NR.mk rfl (.int _ _) rfl⟩
    have hr : ∀ w', w' = w → (Builtin.cap_ (t :: ts).toArray ty ((y :: ys).toArray.map a.eval)).run P w' = .ok (.int .i64 cap) w' := fun w' _ => by
      rcases VR.inv_arr' hbx with e1 | ⟨_, rfl, e1⟩ <;> simp [Builtin.cap_, run_underlying ht, goInt, e1]
    have hr := hr w rfl
    simp [execOp, resolve, invoke, builtin] at hr ⊢; simp [hr]
  · exact hv'.no.elim
theorem intT_eq {t : TypeId} (h : intT P t = true) : ∃ k, P.underlying t = some (.int k) := by
  unfold intT at h
  split at h
  · exact ⟨_, by assumption⟩
  · cases h
theorem eqInts_run {d : Nat} {R : Nat → Nat} : ∀ (fs : List Field) (k : Nat) (cs ds : List AV) (xs ys : Array Value), fieldsInt P fs k = true → allInts cs ds = true → cs.length = fs.length →
    (∀ (j : Nat) (c : AV) (u : Value), cs[j]? = some c → xs[k + j]? = some u → VR w R c u) → (∀ (j : Nat) (c : AV) (u : Value), ds[j]? = some c → ys[k + j]? = some u → VR w R c u) → k + cs.length ≤ xs.size → k + ds.length ≤ ys.size →
    (Op.eqFields (d + 1) xs ys fs).run P w = .ok (eqInts cs ds) w
  | [], _, cs, ds, _, _, _, _, hl, _, _, _, _ => by
    have : cs = [] := List.eq_nil_of_length_eq_zero hl
    subst this
    cases ds <;> simp [Op.eqFields, eqInts]
  | f :: fs, k, cs, ds, xs, ys, hf, hall, hl, hx, hy, hxs, hys => by
    match cs, ds, hall with
    | .int k1 a1 :: cs, .int k2 b1 :: ds, hall =>
      simp only [allInts, Bool.and_eq_true] at hall
      obtain ⟨hk, hall⟩ := hall
      have hk : k1 = k2 := by simpa [kEq] using hk
      subst hk
      simp only [fieldsInt, Bool.and_eq_true] at hf
      obtain ⟨⟨⟨⟨hn, ho⟩, hi⟩, ha⟩, hf⟩ := hf
      have ho : f.offset = k := by simpa using ho
      have hn : f.name ≠ "_" := by simpa using hn
      simp only [List.length_cons] at hxs hys hl
      have hx0 : k < xs.size := by omega
      have hy0 : k < ys.size := by omega
      have e1 := VR.inv_int (hx 0 _ _ rfl (Array.getElem?_eq_getElem (show k + 0 < xs.size by omega)))
      have e2 := VR.inv_int (hy 0 _ _ rfl (Array.getElem?_eq_getElem (show k + 0 < ys.size by omega)))
      simp only [Nat.add_zero] at e1 e2
      have p1 : (part f.type xs f.offset).run P w = .ok (.int k1 a1) w := by
        rw [ho]; simp [part, run_isAgg ha, Array.getElem?_eq_getElem hx0, e1]
      have p2 : (part f.type ys f.offset).run P w = .ok (.int k1 b1) w := by
        rw [ho]; simp [part, run_isAgg ha, Array.getElem?_eq_getElem hy0, e2]
      obtain ⟨k', hu⟩ := intT_eq hi
      have p3 : (Op.equalIn (d + 1) f.type (.int k1 a1) (.int k1 b1)).run P w = .ok (a1 == b1) w := by
        simp [Op.equalIn, run_underlying hu]
      have ih := eqInts_run (d := d) fs (k + 1) cs ds xs ys hf hall (by omega) (fun j c u hc hu => hx (j + 1) c u (by simpa using hc) (by rw [← hu]; congr 1; omega)) (fun j c u hc hu => hy (j + 1) c u (by simpa using hc) (by rw [← hu]; congr 1; omega)) (by omega) (by omega)
      show (Op.eqFields (d + 1) xs ys (f :: fs)).run P w = .ok ((a1 == b1) && eqInts cs ds) w
      simp only [Op.eqFields, if_pos hn, Sem.run_bind, p1, p2, p3, Result.andThen_ok]
      cases h : (a1 == b1)
      · simp
      · simpa using ih
theorem allInts_len : ∀ {cs ds : List AV}, allInts cs ds = true → ds.length = cs.length
 | [], [], _ => rfl
 | [], _ :: _, h => by simp [allInts] at h
 | c :: cs, [], h => by cases c <;> simp [allInts] at h
 | c :: cs, d :: ds, h => by
  cases c <;> cases d <;> simp [allInts] at h
  simp [allInts_len h.2]
theorem pv_eqA (h : Inv G n D σ a w) {op : Op} {ty : TypeId} {m : Nat} {ne : Bool} {x y : IX} (hc : chkOp P op ty (.eqA m ne x y) = true) {av : AV} (hv : POK (pv (.eqA m ne x y) (xg true σ) σ) av) :
    ∃ v, runs P a op ty w v ∧ NR G w σ a av v := by
  cases op <;> first | (simp [chkOp] at hc; done) | skip
  rename_i b t u v yt
  simp only [chkOp, Bool.and_eq_true, decide_eq_true_eq] at hc
  obtain ⟨⟨⟨rfl, hx⟩, hy⟩, ht⟩ := hc
  have hbx := BR.of_inv h hx
  have hby := BR.of_inv h hy
  have hv' : POK (eqAV m ne (xg true σ x) (xg true σ y)) av := hv
  generalize xg true σ x = xv at hbx hv'
  generalize xg true σ y = yv at hby hv'
  unfold eqAV at hv'
  split at hv'
  · rename_i cs ds
    cases hall : (allInts cs ds && cs.length == m) with
    | false => rw [hall] at hv'; exact hv'.no.elim
    | true =>
      rw [hall] at hv'
      rw [hv'.tot]
      rw [Bool.and_eq_true] at hall
      obtain ⟨hall, hlen⟩ := hall
      have hlen : cs.length = m := by simpa using hlen
      obtain ⟨xs, e1, hl1, hr1, _⟩ := VR.inv_agg hbx
      obtain ⟨ys, e2, hl2, hr2, _⟩ := VR.inv_agg hby
      unfold structInts at ht
      split at ht
      · rename_i fs hu
        simp only [Bool.and_eq_true, Bool.not_eq_true'] at ht
        obtain ⟨⟨⟨hfi, hfs⟩, hst⟩, hg⟩ := ht
        have hfs : fs.size = m := by simpa using hfs
        have hfo : P.fieldsOf t = fs := by unfold Program.fieldsOf; rw [hu]
        have hlds : ds.length = cs.length := allInts_len hall
        have hrun := eqInts_run (P := P) (w := w) (d := 9998) (R := G.R) fs.toList 0 cs ds xs ys hfi hall (by rw [hlen]; simpa using hfs.symm) (fun j c u hc hu => hr1 j c u hc (by simpa using hu)) (fun j c u hc hu => hr2 j c u hc (by simpa using hu)) (by omega) (by omega)
        have heq : (Op.equal t (.agg xs) (.agg ys)).run P w = .ok (eqInts cs ds) w := by
          show (Op.equalIn (9999 + 1) t _ _).run P w = _
          rw [run_equalIn_struct w 9999 t xs ys (by rw [hfo]; exact hu) hst, hfo]
          exact hrun
        refine ⟨.bool (eqInts cs ds != ne), fun _ _ _ _ => ?_, NR.mk rfl (.bool _) rfl⟩
        have hgd : ∀ op, (eqGuard op t u v (.agg xs) (.agg ys)).run P w = .ok () w := fun op => run_eqGuard_agg w op t u v xs ys hg
        cases ne <;> simp [execOp, e1, e2, hgd, binOp, heq]
      · cases ht
  · exact hv'.no.elim
theorem VR.inv_nilf {R : Nat → Nat} {v : Value} (h : VR w R .nilf v) : v = .nilFunc := by cases h; rfl
theorem pv_eqF (h : Inv G n D σ a w) {op : Op} {ty : TypeId} {ne : Bool} {x : IX} (hc : chkOp P op ty (.eqF ne x) = true) {av : AV} (hv : POK (pv (.eqF ne x) (xg true σ) σ) av) :
    ∃ v, runs P a op ty w v ∧ NR G w σ a av v := by
  cases op <;> first | (simp [chkOp] at hc; done) | skip
  rename_i b t u v yt
  simp only [chkOp, Bool.and_eq_true, decide_eq_true_eq] at hc
  obtain ⟨⟨⟨rfl, hx⟩, hy⟩, ht⟩ := hc
  have e2 : a.eval v = .nilFunc := by
    split at hy
    · rfl
    · cases hy
  split at ht <;> try (cases ht; done)
  rename_i q1 q2 q3 htu
  have hbx := BR.of_inv h hx
  have hv' : POK (eqFV ne (xg true σ x)) av := hv
  generalize xg true σ x = xv at hbx hv'
  have key : ∀ (fv : Value) (r : Bool), a.eval u = fv → (∀ d : Nat, (Op.equalIn (d + 1) t fv .nilFunc).run P w = .ok r w) → runs P a (.binOp (if ne = true then .neq else .eql) t u v yt) ty w (.bool (r != ne)) := by
    intro fv r e1 hr _ _ _ _
    have hq : (Op.equal t fv .nilFunc).run P w = .ok r w := hr 9999
    cases fv <;> cases ne <;> simp [execOp, e1, e2, eqGuard, binOp, hq]
  unfold eqFV at hv'
  split at hv'
  · rename_i f first caps
    rw [hv'.tot]
    obtain ⟨vf, vc, e1, _⟩ := VR.inv_fn hbx
    have := key _ false e1 fun d => by simp [Op.equalIn, run_underlying htu]
    exact ⟨_, this, NR.mk rfl (by cases ne <;> exact .bool _) rfl⟩
  · rw [hv'.tot]
    have e1 := VR.inv_nilf hbx
    have := key _ true e1 fun d => by simp [Op.equalIn, run_underlying htu]
    exact ⟨_, this, NR.mk rfl (by cases ne <;> exact .bool _) rfl⟩
  · exact hv'.no.elim
theorem VR.inv_nili {R : Nat → Nat} {v : Value} (h : VR w R .nili v) : v = .nilIface := by cases h; rfl
theorem pv_eqI (h : Inv G n D σ a w) {op : Op} {ty : TypeId} {ne : Bool} {x : IX} (hc : chkOp P op ty (.eqI ne x) = true) {av : AV} (hv : POK (pv (.eqI ne x) (xg true σ) σ) av) :
    ∃ v, runs P a op ty w v ∧ NR G w σ a av v := by
  cases op <;> first | (simp [chkOp] at hc; done) | skip
  rename_i b t u v yt
  simp only [chkOp, Bool.and_eq_true, decide_eq_true_eq] at hc
  obtain ⟨⟨⟨rfl, hx⟩, hy⟩, ht⟩ := hc
  have hvc : v = .const .nilIface := by
    split at hy
    · rfl
    · cases hy
  subst hvc
  have e2 : a.eval (.const .nilIface) = .nilIface := rfl
  split at ht <;> try (cases ht; done)
  rename_i q1 htu
  have hbx := BR.of_inv h hx
  have hv' : POK (eqIV ne (xg true σ x)) av := hv
  generalize xg true σ x = xv at hbx hv'
  have key : ∀ (fv : Value) (r : Bool), a.eval u = fv → (∀ d : Nat, (Op.equalIn (d + 1) t fv .nilIface).run P w = .ok r w) → runs P a (.binOp (if ne = true then .neq else .eql) t u (.const .nilIface) yt) ty w (.bool (r != ne)) := by
    intro fv r e1 hr _ _ _ _
    have hq : (Op.equal t fv .nilIface).run P w = .ok r w := hr 9999
    cases fv <;> cases ne <;> simp [execOp, e1, e2, eqGuard, binOp, hq]
  unfold eqIV at hv'
  split at hv'
  · rw [hv'.tot]
    have e1 := VR.inv_nili hbx
    have := key _ true e1 fun d => by simp [Op.equalIn, run_underlying htu]
    exact ⟨_, this, NR.mk rfl (by cases ne <;> exact .bool _) rfl⟩
  · exact hv'.no.elim
theorem pv_sound (h : Inv G n D σ a w) {op : Op} {ty : TypeId} {o : IOp} (hc : chkOp P op ty o = true) {av : AV} (hv : POK (pv o (xg true σ) σ) av) :
  ∃ v, runs P a op ty w v ∧ NR G w σ a av v := by
 cases o with
 | mov tr x => cases tr with
  | false => exact pv_mov h hc hv
  | true => exact (POK.no hv).elim
 | pick c x y => exact pv_pick h hc hv
 | bin b x y => exact pv_bin h hc hv
 | eqB ne x y => exact pv_eqB h hc hv
 | eqP ne x y => exact pv_eqP h hc hv
 | eqS ne x y => exact pv_eqS h hc hv
 | un u x => exact pv_un h hc hv
 | cvtInt k x => exact pv_cvtInt h hc hv
 | cvtId x => exact pv_cvtId h hc hv
 | load m mu x => exact pv_load h hc hv
 | field m mu off x => exact pv_field h hc hv
 | index m mu len x i => exact pv_index h hc hv
 | sindex x i => exact pv_sindex h hc hv
 | nilCheck x => exact pv_nilCheck h hc hv
 | fieldAddr off x => exact pv_fieldAddr h hc hv
 | indexAddr sz x i => exact pv_indexAddr h hc hv
 | aindexAddr sz len x i => exact pv_aindexAddr h hc hv
 | slice sz x lo hi mx => exact pv_slice h hc hv
 | sslice x lo hi => exact pv_sslice h hc hv
 | len cls x => exact pv_len h hc hv
 | alen m => exact pv_alen hc hv
 | minmax mx xs => exact pv_minmax h hc hv
 | extract x k => exact pv_extract h hc hv
 | build z ps => exact pv_build h hc hv
 | makeFn f a b => exact pv_makeFn h hc hv
 | cvtStr x => exact pv_cvtStr h hc hv
 | loadR z m x => exact pv_loadR h hc hv
 | loadI k x => exact pv_loadI h hc hv
 | cap x => exact pv_cap h hc hv
 | eqA m ne x y => exact pv_eqA h hc hv
 | eqF ne x => exact pv_eqF h hc hv
 | eqI ne x => exact pv_eqI h hc hv
 | _ => exact (POK.no hv).elim
end
end Go.AB
end
