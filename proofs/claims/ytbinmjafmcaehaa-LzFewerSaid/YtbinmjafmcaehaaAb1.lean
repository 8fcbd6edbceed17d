/- The abstract layer, part 1: abstract values, the IR, its predicate transformer. -/
import Derived.Orders
namespace Go.AB
open Go

inductive AV where
  | undef
  | bool (b : Bool)
  | int (k : IntKind) (n : Int)
  | str (s : List UInt8)
  | nilp
  | ref (b off : Nat)
  | lp (d off : Nat)
  | sp (cs : List AV)
  | loc (cs : List AV)
  | sl (own : Bool) (sz n : Nat) (cs : List AV)
  | arr (b off len cap : Nat)
  | agg (cs : List AV)
  | tup (vs : List AV)
  | fn (f : Nat) (first caps : List AV)
  | nilf
  | mp (b : Nat)
  | nilm
  | when (b : Bool) (a : AV)
  deriving Inhabited

inductive SO where
  | cells (cs : List AV)
  | map (es : List (AV × AV))
  deriving Inhabited

abbrev Store := Nat → Option SO
def Store.set (s : Store) (b : Nat) (o : SO) : Store := fun i => if i = b then some o else s i
def Store.del (s : Store) (b : Nat) : Store := fun i => if i = b then none else s i

/-- What keys a map has. -/
inductive KeyK where
  | int (k : IntKind)
  | str
  | bool
  | bytes (n : Nat)
  deriving Inhabited

inductive IX where
  | t (i : Nat)
  | c (a : AV)
  deriving Inhabited

inductive IOp where
  | mov (tr : Bool) (x : IX)
  | pick (c x y : IX)
  | allocL (zero : List AV)
  | allocS (zero : List AV)
  | boxL (n : Nat) (x : IX)
  | boxS (n : Nat) (x : IX)
  | build (zero : List AV) (parts : List (Nat × Nat × IX))
  | buildSl (sz len : Nat) (zero : List AV) (parts : List (Nat × Nat × IX))
  | load (n : Nat) (multi : Bool) (x : IX)
  | store (n : Nat) (p v : IX)
  | nilCheck (x : IX)
  | bin (op : BinOp) (x y : IX)
  | eqB (ne : Bool) (x y : IX)
  | eqP (ne : Bool) (x y : IX)
  | eqS (ne : Bool) (x y : IX)
  | un (op : UnOp) (x : IX)
  | cvtInt (k : IntKind) (x : IX)
  | cvtStr (x : IX)
  | cvtBytes (x : IX)
  | cvtId (x : IX)
  | field (n : Nat) (multi : Bool) (off : Nat) (x : IX)
  | index (n : Nat) (multi : Bool) (len : Nat) (x i : IX)
  | sindex (x i : IX)
  | fieldAddr (off : Nat) (x : IX)
  | indexAddr (zero : List AV) (x i : IX)
  | aindexAddr (sz len : Nat) (x i : IX)
  | slice (sz : Nat) (x : IX) (lo hi mx : Option IX)
  | sslice (x : IX) (lo hi : Option IX)
  | extract (x : IX) (k : Nat)
  | len (cls : Nat) (x : IX)
  | alen (n : Nat)
  | cap (x : IX)
  | minmax (mx : Bool) (xs : List IX)
  | append (sz bytes : Nat) (x y : IX)
  | makeSl (sz bytes : Nat) (zero : List AV) (l c : IX)
  | makeOw (sz bytes : Nat) (c : IX)
  | makeMap
  | lookup (kk : KeyK) (zero : AV) (ok : Bool) (x k : IX)
  | mapUpdate (kk : KeyK) (x k v : IX)
  | loadR (zero : List AV) (multi : Bool) (x : IX)
  | cvtRow (x : IX)
  | movT (x : IX)
  | call (f : Nat) (args : List IX)
  | callv (x : IX) (args : List IX)
  | makeFn (f : Nat) (first caps : List IX)
  deriving Inhabited

structure IOper where
  dst : Option Nat
  op : IOp
  g : Option (Nat × Bool)
  deriving Inhabited

inductive IC where
  | skip
  | reg (q : Option Nat) (ops : List IOper) (live : List Nat)
  | seq (a b : IC)
  | cond (c : IX) (a b : IC)
  | block (id : Nat) (b : IC)
  | loop (live : List (Nat × Bool)) (b : IC)
  | join (live : List (Nat × Bool)) (a b : IC)
  | exit (id : Nat)
  | scope (b : IC)
  | label (l : Nat)
  | goto (l : Nat)
  | ret
  deriving Inhabited

structure St where
  e : List (Nat × AV)
  lp : List (Nat × Nat)
  s : Store

def look : List (Nat × AV) → Nat → AV
  | [], _ => .undef
  | (j, a) :: l, i => bif j == i then a else look l i

def St.x (σ : St) : IX → AV
  | .t i => look σ.e i
  | .c a => a

def St.put (σ : St) (d : Option Nat) (a : AV) : St :=
  match d with
  | some d => { σ with e := (d, a) :: σ.e }
  | none => σ

/-- What may be kept behind a region: no pointer into a local block. -/
def dropLp : AV → AV
  | .lp _ _ => .undef
  | .when _ _ => .undef
  | a => a
def St.keep (σ : St) (live : List Nat) : St := { e := live.map fun i => (i, dropLp (look σ.e i)), lp := [], s := σ.s }

def view : AV → AV
  | .sl _ sz n cs => .sl false sz n cs
  | a => a
def vwIf (b : Bool) (a : AV) : AV := bif b then view a else a
/-- What is kept where ways meet; a slice that not all ways own is owned no more. -/
def St.keepV (σ : St) (live : List (Nat × Bool)) : St := { e := live.map fun p => (p.1, vwIf p.2 (dropLp (look σ.e p.1))), lp := [], s := σ.s }

def inner : AV → Bool
  | .loc _ => false
  | .when _ _ => false
  | _ => true
/-- An operand under a guard. -/
def unw (g : Bool) : AV → AV
  | .when b a => bif ((b == g) || b) && inner a then a else .undef
  | a => a

def lo64 : Int := -9223372036854775808
def hi64 : Int := 9223372036854775807

/-- Values that may be copied. -/
def isV : AV → Bool
  | .undef => false
  | .lp _ _ => false
  | .loc _ => false
  | .tup _ => false
  | .when _ _ => false
  | _ => true
def wrapI (k : IntKind) (n : Int) : Int := k.wrap n

/-- What an operation that only computes comes to: a value; a value under a condition; nothing. -/
inductive PR where
  | tot (a : AV)
  | prt (c : Prop) (a : AV)
  | no

def kEq (k k' : IntKind) : Bool := decide (k = k')
def kk (k k' : IntKind) (r : PR) : PR := bif kEq k k' then r else .no
def binI (op : BinOp) (k k' : IntKind) (a b : Int) : PR :=
  match op with
  | .shl => .prt (0 ≤ b) (.int k (wrapI k (a * 2 ^ (min b.toNat k.bits))))
  | .shr => .prt (0 ≤ b) (.int k (a.fdiv (2 ^ (min b.toNat k.bits))))
  | .add => kk k k' (.tot (.int k (wrapI k (a + b))))
  | .sub => kk k k' (.tot (.int k (wrapI k (a - b))))
  | .mul => kk k k' (.tot (.int k (wrapI k (a * b))))
  | .quo => kk k k' (.prt (b ≠ 0) (.int k (wrapI k (a.tdiv b))))
  | .rem => kk k k' (.prt (b ≠ 0) (.int k (a.tmod b)))
  | .and => kk k k' (.tot (.int k (k.wrap (BitVec.ofInt k.bits a &&& BitVec.ofInt k.bits b).toNat)))
  | .or => kk k k' (.tot (.int k (k.wrap (BitVec.ofInt k.bits a ||| BitVec.ofInt k.bits b).toNat)))
  | .xor => kk k k' (.tot (.int k (k.wrap (BitVec.ofInt k.bits a ^^^ BitVec.ofInt k.bits b).toNat)))
  | .andNot => kk k k' (.tot (.int k (k.wrap (BitVec.ofInt k.bits a &&& ~~~BitVec.ofInt k.bits b).toNat)))
  | .eql => kk k k' (.tot (.bool (a == b)))
  | .neq => kk k k' (.tot (.bool (a != b)))
  | .lss => kk k k' (.tot (.bool (decide (a < b))))
  | .leq => kk k k' (.tot (.bool (decide (a ≤ b))))
  | .gtr => kk k k' (.tot (.bool (decide (a > b))))
  | .geq => kk k k' (.tot (.bool (decide (a ≥ b))))
def binS (op : BinOp) (a b : List UInt8) : PR :=
  match op with
  | .add => .prt (((a.length + b.length : Nat) : Int) ≤ hi64) (.str (a ++ b))
  | .eql => .tot (.bool (a == b))
  | .neq => .tot (.bool (!(a == b)))
  | .lss => .tot (.bool (Op.bytesLess a b))
  | .leq => .tot (.bool (Op.bytesLess a b || a == b))
  | .gtr => .tot (.bool (!(Op.bytesLess a b || a == b)))
  | .geq => .tot (.bool (!Op.bytesLess a b))
  | _ => .no
def binV (op : BinOp) (x y : AV) : PR :=
  match x, y with
  | .int k a, .int k' b => binI op k k' a b
  | .str a, .str b => binS op a b
  | _, _ => .no
def eqBV (ne : Bool) (x y : AV) : PR :=
  match x, y with
  | .bool a, .bool b => .tot (.bool ((a == b) != ne))
  | _, _ => .no
/-- Pointers, one of them nil. -/
def eqPV (ne : Bool) (x y : AV) : PR :=
  match x, y with
  | .nilp, .nilp => .tot (.bool (!ne))
  | .ref _ _, .nilp => .tot (.bool ne)
  | .nilp, .ref _ _ => .tot (.bool ne)
  | _, _ => .no
/-- A slice against nil, where it is none. -/
def eqSV (ne : Bool) (x y : AV) : PR :=
  match x, y with
  | .sl _ _ (_ + 1) _, .sl _ _ 0 [] => .tot (.bool ne)
  | .arr _ _ _ _, .sl _ _ 0 [] => .tot (.bool ne)
  | _, _ => .no

def cellsOf : AV → List AV
  | .agg cs => cs
  | a => [a]

def aggOf (multi : Bool) (cs : List AV) : AV := match multi, cs with
  | true, cs => .agg cs
  | false, a :: _ => a
  | false, [] => .undef

def sub (cs : List AV) (off n : Nat) : List AV := (cs.drop off).take n

/-- Cells that are read: they own nothing. -/
def views (cs : List AV) : List AV := cs.map view

/-- The cells that a store lays. -/
def stCells : AV → List AV
  | .agg cs => views cs
  | a => [a]

def setAt (cs : List AV) (off : Nat) (news : List AV) : List AV := cs.take off ++ news ++ cs.drop (off + news.length)

def bx (b : Bool) : AV → Option Bool
  | .bool x => some x
  | .when b' (.bool x) => bif (b' == b) || b' then some x else none
  | _ => none

def fill (f : IX → AV) (cells : List AV) : List (Nat × Nat × IX) → Option (List AV)
  | [] => some cells
  | (off, n, x) :: r =>
    let c := views (cellsOf (f x))
    bif isV (f x) && (c.length == n && decide (off + n ≤ cells.length)) then fill f (setAt cells off c) r else none

def rdCells (n off : Nat) (cs : List AV) : Option (List AV) := bif decide (off + n ≤ cs.length) then some (views (sub cs off n)) else none
def rdLoc (n off : Nat) : AV → Option (List AV)
  | .loc cs => rdCells n off cs
  | _ => none
def rdSO (n off : Nat) : Option SO → Option (List AV)
  | some (.cells cs) => rdCells n off cs
  | _ => none
/-- The cells that a pointer leads to: so many from the place on. -/
def rd (σ : St) (p : AV) (n : Nat) : Option (List AV) :=
  match p with
  | .loc cs => rdCells n 0 cs
  | .lp d off => rdLoc n off (look σ.e d)
  | .sp cs => rdCells n 0 cs
  | .ref b off => rdSO n off (σ.s b)
  | _ => none

def ixV (f : IX → AV) (o : Option IX) (dflt : Int) : Option Int :=
  match o with
  | none => some dflt
  | some x => match f x with
    | .int _ n => some n
    | _ => none

def minL (mx : Bool) : Int → List AV → Option Int
  | a, [] => some a
  | a, .int _ b :: r => minL mx (bif mx then max a b else min a b) r
  | _, _ => none

/-- A value of one cell. -/
def flatV : AV → Bool
  | .agg _ => false
  | a => isV a
def Fl (cs : List AV) : Prop := ∀ c ∈ cs, flatV c = true
def movV (a : AV) : PR := bif isV a then .tot (view a) else .no

def pickB (b : Bool) : Option Bool → Option Bool → PR
  | some p, some q => .tot (.bool (bif b then p else q))
  | _, _ => .no
def pickV (x y : AV) : AV → PR
  | .bool b => pickB b (bx b x) (bx (!b) y)
  | _ => .no
def ckV (a : AV) : PR := bif isV a then .tot a else .no
def ckP (c : Prop) (a : AV) : PR := bif isV a then .prt c a else .no
def unV : UnOp → AV → PR
  | .not, .bool b => .tot (.bool (!b))
  | .neg, .int k n => .tot (.int k (wrapI k (0 - n)))
  | _, _ => .no
def cvtIntV (k : IntKind) : AV → PR
  | .int _ n => .tot (.int k (wrapI k n))
  | _ => .no
def cvtIdV : AV → PR
  | .str s => .tot (.str s)
  | _ => .no
def loadV (multi : Bool) : Option (List AV) → PR
  | some cs => ckV (aggOf multi cs)
  | none => .no
def fieldV (n : Nat) (multi : Bool) (off : Nat) : AV → PR
  | .agg cs => bif decide (off + n ≤ cs.length) then ckV (view (aggOf multi (sub cs off n))) else .no
  | _ => .no
def indexV (n : Nat) (multi : Bool) (len : Nat) : AV → AV → PR
  | .agg cs, .int _ k => bif len * n == cs.length then ckP (0 ≤ k ∧ k < len) (view (aggOf multi (sub cs (k.toNat * n) n))) else .no
  | _, _ => .no
def sindexV : AV → AV → PR
  | .str s, .int _ k => .prt (0 ≤ k ∧ k < s.length) (.int .u8 (s.getD k.toNat 0).toNat)
  | _, _ => .no
def nilCheckV : AV → PR
  | .ref b off => .tot (.ref b off)
  | _ => .no
def locA (c : Prop) (off : Nat) : IX → PR
  | .t i => .prt (c) (.lp i off)
  | .c _ => .no
def fieldAddrV (off : Nat) (x : IX) : AV → PR
  | .lp d o => .tot (.lp d (o + off))
  | .sp cs => bif decide (off ≤ cs.length) then .tot (.sp (cs.drop off)) else .no
  | .ref b o => .tot (.ref b (o + off))
  | .loc _ => locA True off x
  | _ => .no
/-- So many cells, whatever there is. -/
def pad (zero cs : List AV) : List AV := bif cs.length == zero.length then cs else zero
def indexAddrV (zero : List AV) : AV → AV → PR
  | .sl _ s n cs, .int _ k => bif s == zero.length then .prt (0 ≤ k ∧ k < n) (.sp (pad zero (views (sub cs (k.toNat * zero.length) zero.length)))) else .no
  | .arr b off n _, .int _ k => .prt (0 ≤ k ∧ k < n) (.ref b (off + k.toNat * zero.length))
  | _, _ => .no
def aindexAddrV (sz len : Nat) (x : IX) : AV → AV → PR
  | .lp d o, .int _ k => .prt (0 ≤ k ∧ k < len) (.lp d (o + k.toNat * sz))
  | .sp cs, .int _ k => bif decide (len * sz ≤ cs.length) then .prt (0 ≤ k ∧ k < len) (.sp (cs.drop (k.toNat * sz))) else .no
  | .ref b o, .int _ k => .prt (0 ≤ k ∧ k < len) (.ref b (o + k.toNat * sz))
  | .loc _, .int _ k => locA (0 ≤ k ∧ k < len) (k.toNat * sz) x
  | _, _ => .no
def sliceSl (sz n : Nat) (cs : List AV) : Option Int → Option Int → PR
  | some l, some h => bif Nat.ble 1 sz then .prt (0 ≤ l ∧ l ≤ h ∧ h ≤ n) (.sl false sz ((sub cs (l.toNat * sz) ((h - l).toNat * sz)).length / sz) (sub cs (l.toNat * sz) ((h - l).toNat * sz))) else .no
  | _, _ => .no
def sliceArr (sz b off cap : Nat) : Option Int → Option Int → PR
  | some l, some h => .prt (0 ≤ l ∧ l ≤ h ∧ h ≤ cap ∧ l < cap) (.arr b (off + l.toNat * sz) (h - l).toNat (cap - l).toNat)
  | _, _ => .no
def sliceV (sz : Nat) (f : IX → AV) (lo hi : Option IX) : AV → PR
  | .sl _ s n cs => bif s == sz then sliceSl sz n cs (ixV f lo 0) (ixV f hi n) else .no
  | .arr b off n cap => sliceArr sz b off cap (ixV f lo 0) (ixV f hi n)
  | _ => .no
def sliceStr (s : List UInt8) : Option Int → Option Int → PR
  | some l, some h => .prt (0 ≤ l ∧ l ≤ h ∧ h ≤ s.length) (.str ((s.drop l.toNat).take (h - l).toNat))
  | _, _ => .no
def sliceStrV (f : IX → AV) (lo hi : Option IX) : AV → PR
  | .str s => sliceStr s (ixV f lo 0) (ixV f hi s.length)
  | _ => .no
def lenMap : Option SO → PR
  | some (.map es) => .tot (.int .i64 es.length)
  | _ => .no
def lenV (s : Store) : Nat → AV → PR
  | 0, .sl _ _ n _ => .tot (.int .i64 n)
  | 0, .arr _ _ n _ => .tot (.int .i64 n)
  | 1, .str s => .tot (.int .i64 s.length)
  | 2, .nilm => .tot (.int .i64 0)
  | 2, .mp b => lenMap (s b)
  | _, _ => .no
def minK (k : IntKind) : Option Int → PR
  | some m => .tot (.int k m)
  | none => .no
def minmaxV (mx : Bool) : List AV → PR
  | .int k n :: r => minK k (minL mx n r)
  | _ => .no
def extractO : Option AV → PR
  | some a => ckV (view a)
  | none => .no
def extractV (k : Nat) : AV → PR
  | .tup vs => extractO vs[k]?
  | _ => .no
def byteOf : AV → Option UInt8
  | .int .u8 n => if 0 ≤ n ∧ n < 256 then some (UInt8.ofNat n.toNat) else none
  | _ => none
def consO {α : Type} : Option α → Option (List α) → Option (List α)
  | some a, some l => some (a :: l)
  | _, _ => none
/-- Cells as bytes. -/
def bytesOf : List AV → Option (List UInt8)
  | [] => some []
  | a :: r => consO (byteOf a) (bytesOf r)
def strPR : Option (List UInt8) → PR
  | some l => .tot (.str l)
  | none => .no
def cvtStrV : AV → PR
  | .sl _ sz _ cs => bif sz == 1 then strPR (bytesOf cs) else .no
  | _ => .no
def buildV : Option (List AV) → PR
  | some cs => .tot (.agg cs)
  | none => .no

def argC (a : AV) : Option (List AV) → Option (List AV)
  | some l => bif isV a then some (view a :: l) else none
  | none => none
/-- Arguments: values, which own nothing. -/
def argsV (f : IX → AV) : List IX → Option (List AV)
  | [] => some []
  | x :: r => argC (f x) (argsV f r)
def makeFnV (fi : Nat) : Option (List AV) → Option (List AV) → PR
  | some a, some b => .tot (.fn fi a b)
  | _, _ => .no

/-- Cells of the store, read at any place. -/
def loadS (zero : List AV) (multi : Bool) (off : Nat) : Option SO → PR
  | some (.cells cs) => ckP (off + zero.length ≤ cs.length) (aggOf multi (pad zero (views (sub cs off zero.length))))
  | _ => .no
def loadP (zero : List AV) (multi : Bool) (s : Store) : AV → PR
  | .ref b off => loadS zero multi off (s b)
  | _ => .no
/-- Operations that only compute: what they ask, and their value. -/
def pv (o : IOp) (f : IX → AV) (σ : St) : PR :=
  match o with
  | .mov false x => movV (f x)
  | .pick c x y => pickV (σ.x x) (σ.x y) (f c)
  | .bin op x y => binV op (f x) (f y)
  | .eqB ne x y => eqBV ne (f x) (f y)
  | .eqP ne x y => eqPV ne (f x) (f y)
  | .eqS ne x (.c (.sl true z 0 [])) => eqSV ne (f x) (.sl true z 0 [])
  | .un op x => unV op (f x)
  | .cvtInt k x => cvtIntV k (f x)
  | .cvtId x => cvtIdV (f x)
  | .load n multi x => loadV multi (rd σ (f x) n)
  | .field n multi off x => fieldV n multi off (f x)
  | .index n multi len x i => indexV n multi len (f x) (f i)
  | .sindex x i => sindexV (f x) (f i)
  | .nilCheck x => nilCheckV (f x)
  | .fieldAddr off x => fieldAddrV off x (f x)
  | .indexAddr zero x i => indexAddrV zero (f x) (f i)
  | .aindexAddr sz len x i => aindexAddrV sz len x (f x) (f i)
  | .slice sz x lo hi none => sliceV sz f lo hi (f x)
  | .sslice x lo hi => sliceStrV f lo hi (f x)
  | .len cls x => lenV σ.s cls (f x)
  | .alen n => .tot (.int .i64 n)
  | .minmax mx xs => minmaxV mx (xs.map f)
  | .extract x k => extractV k (f x)
  | .build zero parts => buildV (fill f zero parts)
  | .makeFn fi first caps => makeFnV fi (argsV f first) (argsV f caps)
  | .cvtStr x => cvtStrV (f x)
  | .loadR zero multi x => loadP zero multi σ.s (f x)
  | _ => .no

end Go.AB
