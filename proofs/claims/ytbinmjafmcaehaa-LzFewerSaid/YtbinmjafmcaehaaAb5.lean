/- The abstract layer, part 5: when an IR is one of a function's code. -/
import Derived.Test.YtbinmjafmcaehaaAb4
namespace Go.AB
open Go

def cR : Value → AV → Bool
  | .bool a, .bool b => a == b
  | .int k n, .int k' m => decide (k = k') && n == m
  | .string s, .str t => s.data.toList == t
  | .pointer none, .nilp => true
  | .slice none 0 0, .sl _ _ 0 [] => true
  | .map none, .nilm => true
  | .nilFunc, .nilf => true
  | _, _ => false

def cRs : List Value → List AV → Bool
  | [], [] => true
  | v :: vs, a :: as => cR v a && cRs vs as
  | _, _ => false

def chkX : Operand → IX → Bool
  | .tmp t, .t i => t == i
  | .const (.agg vs), .c (.agg cs) => cRs vs.toList cs
  | .const v, .c a => cR v a
  | .func f, .c (.fn g [] []) => f == g
  | _, _ => false

def chkXs : List Operand → List IX → Bool
  | [], [] => true
  | o :: os, x :: xs => chkX o x && chkXs os xs
  | _, _ => false

def chkO : Option Operand → Option IX → Bool
  | none, none => true
  | some o, some x => chkX o x
  | _, _ => false

section
variable (P : Program)
def sizeIs (t : TypeId) (n : Nat) : Bool := match P.info? t with
  | some i => i.size == n
  | none => false
def bytesIs (t : TypeId) (n : Nat) : Bool := match P.info? t with
  | some i => i.bytes == n
  | none => false
def aggIs (t : TypeId) (multi : Bool) : Bool := match P.underlying t with
  | some (.struct _) | some (.array _ _) => multi
  | some _ => !multi
  | none => false
def zeroIs (t : TypeId) (z : List AV) : Bool := match P.info? t with
  | some i => (match i.zero with
    | some v => cRs v.cells.toList z && i.size == z.length
    | none => false)
  | none => false
def elemOfSl (t : TypeId) : Option TypeId := match P.underlying t with
  | some (.slice e) => some e
  | _ => none

/-- The parts of a struct: their places and sizes. -/
def partsS (fs : Array Field) : List (Nat × Operand) → List (Nat × Nat × IX) → Bool
  | [], [] => true
  | (i, o) :: r, (off, n, x) :: s => (match fs[i]? with
    | some f => f.offset == off && sizeIs P f.type n
    | none => false) && chkX o x && partsS fs r s
  | _, _ => false
def partsA (sz : Nat) : List (Nat × Operand) → List (Nat × Nat × IX) → Bool
  | [], [] => true
  | (i, o) :: r, (off, n, x) :: s => i * sz == off && n == sz && chkX o x && partsA sz r s
  | _, _ => false

def intT (t : TypeId) : Bool := match P.underlying t with
  | some (.int _) => true
  | _ => false
def boolT (t : TypeId) : Bool := match P.underlying t with
  | some .bool => true
  | _ => false
def strT (t : TypeId) : Bool := match P.underlying t with
  | some .string => true
  | _ => false
def ptrT (t : TypeId) : Bool := match P.underlying t with
  | some (.pointer _) => true
  | _ => false

def zeroLen (e : TypeId) (sz : Nat) : Bool := match P.info? e with
  | some i => (match i.zero with
    | some v => v.cells.size == sz
    | none => false)
  | none => false
def asB (b : Builtin) (c : Call) : Option (List Operand × List TypeId) := match c.callee with
  | .builtin b' => if b' = b then some (c.args.toList, c.argTypes.toList) else none
  | _ => none
def lenT (t : TypeId) (cls : Nat) : Bool := match P.underlying t with
  | some (.slice _) => cls == 0
  | some .string => cls == 1
  | some (.map _ _) => cls == 2
  | _ => false
def arrLen (t : TypeId) (n : Nat) : Bool := match P.underlying t with
  | some (.array m _) => n == m
  | _ => false

def keyT (t : TypeId) : KeyK → Bool
  | .int k => (match P.underlying t with | some (.int k') => kEq k k' | _ => false)
  | .str => (match P.underlying t with | some .string => true | _ => false)
  | .bool => (match P.underlying t with | some .bool => true | _ => false)
  | .bytes n => (match P.underlying t with
    | some (.array m e) => m == n && (match P.underlying e with | some (.int .u8) => true | _ => false) && sizeIs P e 1
    | _ => false)
def zeroAV (t : TypeId) (z : AV) : Bool := match P.info? t with
  | some i => (match i.zero with
    | some v => (match z, v with
      | .agg cs, .agg vs => cRs vs.toList cs
      | z, v => cR v z)
    | none => false)
  | none => false
def chkOp (op : Op) (_ty : TypeId) (o : IOp) : Bool :=
  match o, op with
  | .mov _ x, .move y => chkX y x
  | .mov _ x, .assign y => chkX y x
  | .pick c x y, .pick c' x' y' => chkX c' c && chkX x' x && chkX y' y
  | .allocL z, .alloc t => zeroIs P t z
  | .allocS z, .alloc t => zeroIs P t z
  | .boxL n x, .box t y => sizeIs P t n && chkX y x
  | .boxS n x, .box t y => sizeIs P t n && chkX y x
  | .build z ps, .build t qs => zeroIs P t z && (match P.underlying t with
    | some (.struct fs) => partsS P fs qs.toList ps && fs.all fun f => (P.info? f.type).isSome
    | some (.array _ e) => (match P.info? e with
      | some i => partsA i.size qs.toList ps
      | none => false)
    | _ => false)
  | .buildSl sz n z ps, .buildSlice t m qs => n == m && (match elemOfSl P t with
    | some e => sizeIs P e sz && decide (0 < sz) && partsA sz qs.toList ps && decide (n * sz ≤ 2 ^ 24) && (match P.info? e with
      | some i => (match i.zero with
        | some v => cRs ((List.replicate n v.cells.toList).flatten) z && v.cells.size == sz
        | none => false)
      | none => false)
    | none => false)
  | .loadR z multi x, .load t y => sizeIs P t z.length && aggIs P t multi && (multi || z.length == 1) && chkX y x
  | .lookup kk z ok x k, .lookup t y j ok' => chkX y x && chkX j k && ok == ok' && (match P.underlying t with
    | some (.map kt et) => keyT P kt kk && zeroAV P et z
    | _ => false)
  | .mapUpdate kk x k v, .mapUpdate t y j u => chkX y x && chkX j k && chkX u v && (match P.underlying t with
    | some (.map kt _) => keyT P kt kk
    | _ => false)
  | .movT x, .move y => chkX y x
  | .movT x, .assign y => chkX y x
  | .cvtRow (.t i), .convert s t y => chkX y (.t i) && s == t && (match P.underlying s with
    | some (.slice e) => (match P.underlying e with | some (.int .u8) => true | _ => false)
    | _ => false)
  | .load n multi x, .load t y => sizeIs P t n && aggIs P t multi && (multi || n == 1) && chkX y x
  | .store n p v, .store t q u => sizeIs P t n && chkX q p && chkX u v
  | .nilCheck x, .nilCheck y => chkX y x
  | .bin bo x y, .binOp b _ u v _ => decide (bo = b) && chkX u x && chkX v y
  | .eqB ne x y, .binOp b t u v _ => decide (b = if ne then .neq else .eql) && chkX u x && chkX v y && boolT P t
  | .eqP ne x y, .binOp b t u v _ => decide (b = if ne then .neq else .eql) && chkX u x && chkX v y && ptrT P t
  | .eqS ne x y, .binOp b t u v _ => decide (b = if ne then .neq else .eql) && chkX u x && chkX v y && (elemOfSl P t).isSome
  | .un uo x, .unOp u _ y => decide (uo = u) && chkX y x
  | .cvtInt k x, .convert s t y => chkX y x && (match P.underlying s, P.underlying t with
    | some (.int _), some (.int k') => decide (k = k')
    | _, _ => false)
  | .cvtStr x, .convert s t y => chkX y x && (match P.underlying s, P.underlying t with
    | some (.slice e), some .string => (match P.underlying e with | some (.int .u8) => true | _ => false)
    | _, _ => false)
  | .cvtBytes x, .convert s t y => chkX y x && (match P.underlying s, P.underlying t with
    | some .string, some (.slice e) => (match P.underlying e with | some (.int .u8) => true | _ => false)
    | _, _ => false)
  | .cvtId x, .convert s t y => chkX y x && (match P.underlying s, P.underlying t with
    | some .string, some .string => true
    | _, _ => false)
  | .field n multi off x, .field t y i => chkX y x && (match P.underlying t with
    | some (.struct fs) => (match fs[i]? with
      | some f => f.offset == off && sizeIs P f.type n && aggIs P f.type multi && (multi || n == 1)
      | none => false)
    | _ => false)
  | .index n multi len x i, .index t y j => chkX y x && chkX j i && (match P.underlying t with
    | some (.array l e) => l == len && sizeIs P e n && aggIs P e multi && (multi || n == 1)
    | _ => false)
  | .sindex x i, .index t y j => chkX y x && chkX j i && strT P t
  | .fieldAddr off x, .fieldAddr t y i => chkX y x && (match P.underlying t with
    | some (.struct fs) => (match fs[i]? with
      | some f => f.offset == off && (match P.info? f.type with | some j => decide (0 < j.size) | none => false)
      | none => false)
    | _ => false)
  | .indexAddr z x i, .indexAddr t y j => chkX y x && chkX j i && (match elemOfSl P t with
    | some e => sizeIs P e z.length
    | none => false)
  | .aindexAddr sz len x i, .indexAddr t y j => chkX y x && chkX j i && (match P.underlying t with
    | some (.array l e) => l == len && sizeIs P e sz
    | _ => false)
  | .slice sz x lo hi mx, .slice t y l h m => chkX y x && chkO l lo && chkO h hi && chkO m mx && (match elemOfSl P t with
    | some e => sizeIs P e sz
    | none => false)
  | .sslice x lo hi, .slice t y l h none => chkX y x && chkO l lo && chkO h hi && strT P t
  | .extract x k, .extract y j => chkX y x && k == j
  | .len cls x, .call c => (match asB .len c with
    | some (y :: _, t :: _) => chkX y x && lenT P t cls
    | _ => false)
  | .alen n, .call c => (match asB .len c with
    | some (_ :: _, t :: _) => arrLen P t n
    | _ => false)
  | .cap x, .call c => (match asB .cap c with
    | some (y :: _, t :: _) => chkX y x && (elemOfSl P t).isSome
    | _ => false)
  | .minmax true xs, .call c => (match asB .max c with
    | some (ys, _) => chkXs ys xs
    | _ => false)
  | .minmax false xs, .call c => (match asB .min c with
    | some (ys, _) => chkXs ys xs
    | _ => false)
  | .append sz by' x y, .call c => (match asB .append c with
    | some ([u, v], [t, t']) => chkX u x && chkX v y && (match elemOfSl P t with
      | some e => sizeIs P e sz && bytesIs P e by' && decide (0 < sz) && decide (0 < by') && zeroLen P e sz && ((elemOfSl P t').isSome || strT P t')
      | none => false)
    | _ => false)
  | .makeSl sz by' z l c, .makeSlice t l' c' => chkX l' l && chkX c' c && (match elemOfSl P t with
    | some e => sizeIs P e sz && bytesIs P e by' && zeroIs P e z && decide (0 < sz) && decide (0 < by')
    | none => false)
  | .makeOw sz by' c, .makeSlice t l' c' => (match l' with | .const (.int .i64 0) => true | _ => false) && chkX c' c && (match elemOfSl P t with
    | some e => sizeIs P e sz && bytesIs P e by' && zeroLen P e sz && decide (0 < sz) && decide (0 < by')
    | none => false)
  | .makeMap, .makeMap _ none => true
  | .call f args, .call c => (match c.callee with
    | .value (.func g) => f == g && chkXs c.args.toList args && (match P.funcs[f]? with
      | some fn => fn.name != "runtime.NumGoroutine" && fn.body.isSome
      | none => false)
    | _ => false)
  | .callv x args, .call c => (match c.callee with
    | .value y => chkX y x && chkXs c.args.toList args
    | _ => false)
  | .makeFn f a b, .makeFunc (.func g) c d => f == g && chkXs c.toList a && chkXs d.toList b
  | _, _ => false

def chkG (ops : Array Oper) : Option (Nat × Bool) → Option (Nat × Bool) → Bool
  | none, none => true
  | some (j, w), some (t, w') => w == w' && ((ops[j]?).bind (·.dst)) == some t
  | _, _ => false

def dstOK (n : Nat) : Option Nat → Bool
  | none => true
  | some d => decide (d < n)

def chkOper (n : Nat) (ops : Array Oper) (o : Oper) (o' : IOper) : Bool :=
  o.dst == o'.dst && dstOK n o'.dst && chkG ops o.guard o'.g && chkOp P o.op o.type o'.op

def chkOpers (n : Nat) (ops : Array Oper) : List Oper → List IOper → Bool
  | [], [] => true
  | o :: r, o' :: r' => chkOper P n ops o o' && chkOpers n ops r r'
  | _, _ => false

/-- The operands that an operation looks at. -/
def oX : Option IX → List IX
  | some x => [x]
  | none => []
def opIX : IOp → List IX
  | .mov _ x | .boxL _ x | .boxS _ x | .load _ _ x | .nilCheck x | .un _ x | .cvtInt _ x | .cvtStr x | .cvtBytes x | .cvtId x | .field _ _ _ x | .fieldAddr _ x | .extract x _ | .len _ x | .cap x | .makeOw _ _ x | .loadR _ _ x | .cvtRow x | .movT x => [x]
  | .pick c x y => [c, x, y]
  | .allocL _ | .allocS _ | .alen _ | .makeMap => []
  | .build _ ps | .buildSl _ _ _ ps => ps.map fun p => p.2.2
  | .store _ x y | .bin _ x y | .eqB _ x y | .eqP _ x y | .eqS _ x y | .index _ _ _ x y | .sindex x y | .indexAddr _ x y | .aindexAddr _ _ x y | .append _ _ x y | .makeSl _ _ _ x y | .lookup _ _ _ x y => [x, y]
  | .slice _ x lo hi mx => x :: (oX lo ++ (oX hi ++ oX mx))
  | .sslice x lo hi => x :: (oX lo ++ oX hi)
  | .minmax _ xs => xs
  | .mapUpdate _ x y z => [x, y, z]
  | .call _ xs => xs
  | .callv x xs => x :: xs
  | .makeFn _ xs ys => xs ++ ys

/-- The slots that an operation looks at. -/
def ixSlots : List IX → List Nat
  | [] => []
  | .t i :: r => i :: ixSlots r
  | .c _ :: r => ixSlots r
def gSlots : Option (Nat × Bool) → List Nat
  | some (t, _) => [t]
  | none => []
def slots (o : IOper) : List Nat := gSlots o.g ++ ixSlots (opIX o.op)
def notIn (d : Option Nat) (l : List Nat) : Bool := match d with
  | some d => !l.contains d
  | none => true
/-- The slot that an operation takes its value out of. -/
def drained (o : IOper) (i : Nat) : Bool := match o.op with
  | .mov true (.t j) => j == i
  | _ => false
def noDr (x y : IOper) : Bool := (slots y).all fun i => !drained x i
def ap (x y : IOper) : Bool := (noDr x y && noDr y x) && notIn x.dst (slots y) && notIn y.dst (slots x) && (match x.dst, y.dst with
  | some i, some j => i != j
  | _, _ => true)

def bindsOn (ops : Array Oper) (j i : Nat) : Bool := match ops[j]? with
  | some o => o.after.any fun e => Region.binds .any e && e.on == i
  | none => false
/-- In a region that draws: the first q operations may come up in any order that their edges leave; behind them only one can come up at a time. -/
def chkS1 (ops : Array Oper) (q : Nat) : Bool := (List.range q).all fun k => match ops[k]? with
  | some o => o.after.all fun e => !Region.binds .any e || decide (e.on < k)
  | none => false
def chkS2 (ops : Array Oper) (q : Nat) : Bool := q == ops.size || (List.range q).all fun k => (List.range (q + 1)).any fun m => decide (k < m) && bindsOn ops m k
def apAt (iops : List IOper) (i j : Nat) : Bool := match iops[i]?, iops[j]? with
  | some x, some y => ap x y
  | _, _ => false
def chkS3 (ops : Array Oper) (q : Nat) (iops : List IOper) : Bool := (List.range q).all fun j => (List.range j).all fun i => bindsOn ops j i || apAt iops i j
def chkTail (ops : Array Oper) : Nat → Nat → Array Bool → Bool
  | 0, _, listed => (Region.ready .any ops listed).isEmpty
  | fuel + 1, k, listed => Region.ready .any ops listed == [k] && chkTail ops fuel (k + 1) (listed.setIfInBounds k true)
def upTo (size q : Nat) : Array Bool := (Array.range size).map fun i => decide (i < q)
def chkDr (ops : Array Oper) (q : Nat) (iops : List IOper) : Bool := decide (q ≤ ops.size) && (chkS1 ops q && (chkS2 ops q && (chkS3 ops q iops && chkTail ops (ops.size - q) q (upTo ops.size q))))

def chk (n : Nat) : Code → IC → Bool
  | .skip, .skip => true
  | .region _ ops draw, .reg q iops _ => chkOpers P n ops ops.toList iops && (match q with
    | none => !draw
    | some q => !draw || chkDr ops q iops)
  | .seq a b, .seq a' b' => chk n a a' && chk n b b'
  | .seq a b, .join _ a' b' => chk n a a' && chk n b b'
  | .cond c a b, .cond c' a' b' => chkX c c' && chk n a a' && chk n b b'
  | .block i b, .block j b' => i == j && chk n b b'
  | .loop b, .loop _ b' => chk n b b'
  | .exit i, .exit j => i == j
  | .scope b, .scope b' => chk n b b'
  | .label l, .label l' => l == l'
  | .goto l, .goto l' => l == l'
  | .ret, .ret => true
  | _, _ => false
end
end Go.AB
