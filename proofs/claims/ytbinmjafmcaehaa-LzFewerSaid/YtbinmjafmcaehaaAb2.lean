/- The abstract layer, part 2: what abstract values mean in a world; contracts; the predicate transformer. -/
import Derived.Test.YtbinmjafmcaehaaAb1
namespace Go.AB
open Go

inductive Owner where
  | none
  | frame
  | slot (i j : Nat)
  | loc (i : Nat)
  | sh
  | cell (b j : Nat)
  | res (j : Nat)
  deriving DecidableEq

structure Gh where
  R : Nat → Nat
  O : Nat → Owner

/-- A value, read in a world of which certain first cells of each block never change. -/
inductive VR (w : World) (R : Nat → Nat) : AV → Value → Prop where
  | undef (v : Value) : VR w R .undef v
  | bool (b : Bool) : VR w R (.bool b) (.bool b)
  | int (k : IntKind) (n : Int) : VR w R (.int k n) (.int k n)
  | str (s : List UInt8) : VR w R (.str s) (.string ⟨s.toArray⟩)
  | nilp : VR w R .nilp (.pointer none)
  | ref (b off : Nat) : VR w R (.ref b off) (.pointer (some ⟨b, off, none⟩))
  | sp (cs : List AV) (b off : Nat) (u : Nat → Value) (hf : Fl cs) (hR : off + cs.length ≤ R b)
      (hc : ∀ (j : Nat) (c : AV), cs[j]? = some c → w.cell? ⟨b, off + j, none⟩ = some (u j)) (hr : ∀ (j : Nat) (c : AV), cs[j]? = some c → VR w R c (u j)) :
      VR w R (.sp cs) (.pointer (some ⟨b, off, none⟩))
  | slnil (own : Bool) (sz : Nat) : VR w R (.sl own sz 0 []) (.slice none 0 0)
  | sl (own : Bool) (sz n : Nat) (cs : List AV) (b off cap : Nat) (u : Nat → Value) (hf : Fl cs) (hl : cs.length = n * sz) (hR : off + cs.length ≤ R b) (hcap : n ≤ cap)
      (hc : ∀ (j : Nat) (c : AV), cs[j]? = some c → w.cell? ⟨b, off + j, none⟩ = some (u j)) (hr : ∀ (j : Nat) (c : AV), cs[j]? = some c → VR w R c (u j)) :
      VR w R (.sl own sz n cs) (.slice (some ⟨b, off, none⟩) n cap)
  | arr (b off len cap : Nat) : VR w R (.arr b off len cap) (.slice (some ⟨b, off, none⟩) len cap)
  | agg (cs : List AV) (vs : Array Value) (hf : Fl cs) (hl : vs.size = cs.length) (hr : ∀ (j : Nat) (c : AV) (v : Value), cs[j]? = some c → vs[j]? = some v → VR w R c v) : VR w R (.agg cs) (.agg vs)
  | tup (cs : List AV) (vs : Array Value) (hl : vs.size = cs.length) (hr : ∀ (j : Nat) (c : AV) (v : Value), cs[j]? = some c → vs[j]? = some v → VR w R c v) : VR w R (.tup cs) (.tuple vs)
  | fn (f : Nat) (first caps : List AV) (vf vc : Array Value) (hl : vf.size = first.length) (hr : ∀ (j : Nat) (c : AV) (v : Value), first[j]? = some c → vf[j]? = some v → VR w R c v)
      (hl' : vc.size = caps.length) (hr' : ∀ (j : Nat) (c : AV) (v : Value), caps[j]? = some c → vc[j]? = some v → VR w R c v) : VR w R (.fn f first caps) (.func (.func f) vf vc)
  | nilf : VR w R .nilf .nilFunc
  | mp (b : Nat) : VR w R (.mp b) (.map (some b))
  | nilm : VR w R .nilm (.map none)
  | when (b : Bool) (a : AV) (v : Value) (h : b = true → VR w R a v) : VR w R (.when b a) v

/-- Who may append to a slice: nobody else sees its spare cells. -/
def OwnR (G : Gh) (w : World) (o : Owner) (a : AV) (v : Value) : Prop :=
  match a with
  | .sl true sz n _ => ∀ base m cap, v = .slice base m cap → (cap ≠ n ∨ 0 < n) →
      ∃ b off c e fz, base = some ⟨b, off, none⟩ ∧ G.O b = o ∧ G.R b = off + n * sz ∧ w.heap[b]? = some (.cells c e fz) ∧ c.size = off + cap * sz ∧
        (∀ k, k < c.size → ¬ (fz.1 ≤ k ∧ k < fz.2)) ∧ fz.1 ≤ fz.2
  | _ => True

def CellsR (G : Gh) (w : World) (o : Nat → Owner) (cs : List AV) (c : Array Value) : Prop :=
  c.size = cs.length ∧ ∀ (j : Nat) (x : AV) (y : Value), cs[j]? = some x → c[j]? = some y → VR w G.R x y ∧ OwnR G w (o j) x y

/-- What is read at a slot. -/
def ValS (G : Gh) (w : World) (e : List (Nat × AV)) (tmps : Array Value) (i : Nat) : AV → Value → Prop
  | .loc cs, v => ∃ b c t, v = .pointer (some ⟨b, 0, none⟩) ∧ G.O b = .loc i ∧ G.R b = 0 ∧ w.heap[b]? = some (.cells c t (0, 0)) ∧ CellsR G w (.cell b) cs c ∧ Fl cs
  | .lp d off, v => ∃ b, v = .pointer (some ⟨b, off, none⟩) ∧ ∀ cs, look e d = .loc cs → tmps[d]? = some (.pointer (some ⟨b, 0, none⟩))
  | .tup vs, v => ∃ ys : Array Value, v = .tuple ys ∧ CellsR G w (fun j => .slot i (j + 1)) vs ys
  | .when b a, v => (b = true → ValS G w e tmps i a v) ∧ (b = false → v = .tuple #[])
  | a, v => VR w G.R a v ∧ OwnR G w (.slot i 0) a v

def holdsLp : AV → Nat → Prop
  | .lp d _, d' => d = d'
  | .when _ a, d' => holdsLp a d'
  | _, _ => False

structure GoodW (G : Gh) (w : World) : Prop where
  newO : ∀ b, w.heap.size ≤ b → G.O b = .none
  newR : ∀ b, w.heap.size ≤ b → G.R b = 0

def EntR (G : Gh) (w : World) (x : AV × AV) (y : MapEntry) : Prop := VR w G.R x.1 y.key ∧ VR w G.R x.2 y.val

def StoreR (G : Gh) (w : World) (s : Store) : Prop :=
  ∀ b o, s b = some o → G.O b = .sh ∧ G.R b = 0 ∧ match o with
    | .cells cs => ∃ c t, w.heap[b]? = some (.cells c t (0, 0)) ∧ CellsR G w (.cell b) cs c ∧ Fl cs
    | .map es => ∃ ents clock, w.heap[b]? = some (.map ents clock) ∧ ents.size = es.length ∧ ∀ (j : Nat) (x : AV × AV) (y : MapEntry), es[j]? = some x → ents[j]? = some y → EntR G w x y

/-- What an abstract state says of a frame and a world. -/
structure Inv (G : Gh) (n : Nat) (σ : St) (a : Act) (w : World) : Prop where
  good : GoodW G w
  store : StoreR G w σ.s
  size : a.tmps.size = n
  slots : ∀ (i : Nat) (v : Value), a.tmps[i]? = some v → ValS G w σ.e a.tmps i (look σ.e i) v
  dom : ∀ i, n ≤ i → look σ.e i = .undef
  lps : ∀ i d, holdsLp (look σ.e i) d → (i, d) ∈ σ.lp
  def0 : a.defers = []

/-- What stays from one world to a later one. -/
structure Pres (G : Gh) (w : World) (G' : Gh) (w' : World) : Prop where
  os : w'.os = w.os
  tape : w'.tape = w.tape
  output : w'.output = w.output
  size : w.heap.size ≤ w'.heap.size
  mono : ∀ b, b < w.heap.size → G.R b ≤ G'.R b
  stable : ∀ b k, b < w.heap.size → k < G.R b → w'.cell? ⟨b, k, none⟩ = w.cell? ⟨b, k, none⟩
  frame : ∀ b, b < w.heap.size → G.O b = .frame ∨ G.O b = .none → w'.heap[b]? = w.heap[b]?
  frameO : ∀ b, b < w.heap.size → G.O b = .frame → G'.O b = .frame ∧ G'.R b = G.R b
  noneO : ∀ b, b < w.heap.size → G.O b = .none → G'.O b = .none ∧ G'.R b = G.R b

def ResR (G : Gh) (w : World) (rs : List AV) (v : Value) : Prop :=
  match rs with
  | [a] => VR w G.R a v ∧ OwnR G w (.res 0) a v
  | rs => ∃ ys : Array Value, v = .tuple ys ∧ CellsR G w (fun j => .res j) rs ys

/-- No block is owned by a frame's slots, seen from outside. -/
def Outer (G : Gh) : Prop := ∀ b, G.O b = .none ∨ G.O b = .frame ∨ G.O b = .sh ∨ ∃ b' j, G.O b = .cell b' j ∧ G.O b' = .sh

def ArgsR (w : World) (R : Nat → Nat) (args : List AV) (vs : Array Value) : Prop :=
  vs.size = args.length ∧ ∀ (j : Nat) (a : AV) (v : Value), args[j]? = some a → vs[j]? = some v → VR w R a v

/-- A call's contract, of abstract arguments and a store. -/
def FN (P : Program) (f : FuncId) (args : List AV) (s : Store) (Q : List AV → Store → Prop) : Prop :=
  ∀ (G : Gh) (w : World) (vs : Array Value), GoodW G w → Outer G → StoreR G w s → ArgsR w G.R args vs →
    Calls P f vs w fun e w' => ∃ v rs s' G', e = .returned v ∧ Q rs s' ∧ GoodW G' w' ∧ StoreR G' w' s' ∧ ResR G' w' rs v ∧ Pres G w G' w'

theorem FN.mono {P : Program} {f : FuncId} {args : List AV} {s : Store} {Q Q' : List AV → Store → Prop} (h : FN P f args s Q) (hq : ∀ rs s', Q rs s' → Q' rs s') : FN P f args s Q' :=
  fun G w vs h1 h2 h3 h4 => (h G w vs h1 h2 h3 h4).mono fun _ _ ⟨v, rs, s', G', a, b, c⟩ => ⟨v, rs, s', G', a, hq _ _ b, c⟩

/-- A contract by values: these results, this store. -/
def FE (P : Program) (f : FuncId) (args : List AV) (s : Store) (rs : List AV) (s' : Store) : Prop := FN P f args s fun r t => r = rs ∧ t = s'

theorem FE.app {P : Program} {f : FuncId} {args : List AV} {s s' : Store} {rs : List AV} {Q : List AV → Store → Prop} (h : FE P f args s rs s') (hq : Q rs s') : FN P f args s Q :=
  FN.mono h fun _ _ ⟨h1, h2⟩ => by rw [h1, h2]; exact hq

def retV : List AV → AV
  | [a] => a
  | rs => .tup rs

/-- The most bytes that one slice takes here. -/
def room : Nat := 140737488355328

def lpFree (lp : List (Nat × Nat)) (d : Option Nat) : Bool := match d with
  | some d => lp.all fun x => !Nat.beq x.2 d
  | none => true

/-- The value that is taken out of a slot, and what is left there. -/
def St.drain (σ : St) (x : IX) : St := match x with
  | .t i => σ.put (some i) (view (look σ.e i))
  | .c _ => σ

def wrCells (off : Nat) (news : List AV) (old : List AV) : Option (List AV) := bif decide (off + news.length ≤ old.length) then some (setAt old off news) else none
def wrL (σ : St) (d : Nat) : Option (List AV) → Option St
  | some cs => some (σ.put (some d) (.loc cs))
  | none => none
def wrS (σ : St) (b : Nat) : Option (List AV) → Option St
  | some cs => some { σ with s := σ.s.set b (.cells cs) }
  | none => none
def wrLoc (σ : St) (d off : Nat) (news : List AV) : AV → Option St
  | .loc old => wrL σ d (wrCells off news old)
  | _ => none
def wrSO (σ : St) (b off : Nat) (news : List AV) : Option SO → Option St
  | some (.cells old) => wrS σ b (wrCells off news old)
  | _ => none
def wrIx (σ : St) (news old : List AV) : IX → Option St
  | .t d => wrL σ d (wrCells 0 news old)
  | .c _ => none
def wrSt (σ : St) (p : AV) (i : IX) (news : List AV) : Option St :=
  match p with
  | .loc old => wrIx σ news old i
  | .lp d off => wrLoc σ d off news (look σ.e d)
  | .ref b off => wrSO σ b off news (σ.s b)
  | _ => none

def keyEq : AV → AV → Bool
  | .int _ a, .int _ b => a == b
  | .str a, .str b => a == b
  | .bool a, .bool b => a == b
  | _, _ => false

def keyEqs : List AV → List AV → Bool
  | [], [] => true
  | a :: x, b :: y => keyEq a b && keyEqs x y
  | _, _ => false

def keyIs (a b : AV) : Bool := keyEqs (cellsOf a) (cellsOf b)

def findK (k : AV) : List (AV × AV) → Option AV
  | [] => none
  | x :: r => bif keyIs k x.1 then some x.2 else findK k r

def putK (k v : AV) : List (AV × AV) → List (AV × AV)
  | [] => [(k, v)]
  | x :: r => bif keyIs k x.1 then (k, v) :: r else x :: putK k v r

section
variable (P : Program)

def movW (σ : St) (x : IX) (d : Option Nat) (K : St → Prop) (a : AV) : Prop := isV a = true ∧ K ((σ.drain x).put d a)
def boxLW (n : Nat) (σ : St) (d : Option Nat) (K : St → Prop) (a : AV) : Prop := isV a = true ∧ (cellsOf a).length = n ∧ K (σ.put d (.loc (views (cellsOf a))))
def boxSW (n : Nat) (σ : St) (d : Option Nat) (K : St → Prop) (a : AV) : Prop :=
  isV a = true ∧ (cellsOf a).length = n ∧ ∀ b, σ.s b = none → K ({ σ with s := σ.s.set b (.cells (views (cellsOf a))) }.put d (.ref b 0))
def buildSlW (sz n : Nat) (σ : St) (d : Option Nat) (K : St → Prop) : Option (List AV) → Prop
  | some cs => cs.length = n * sz ∧ K (σ.put d (.sl true sz n cs))
  | none => False
def stK (d : Option Nat) (K : St → Prop) : Option St → Prop
  | some τ => K (τ.put d (.tup []))
  | none => False
def storeW (n : Nat) (σ : St) (p : IX) (v : IX) (d : Option Nat) (K : St → Prop) (a : AV) : Prop :=
  isV a = true ∧ (stCells a).length = n ∧ stK d K (wrSt (σ.drain v) (σ.x p) p (stCells a))
def appendW (sz bytes : Nat) (σ : St) (x : IX) (d : Option Nat) (K : St → Prop) : AV → AV → Prop
  | .sl true s n cs, .sl _ s' m ds => s = sz ∧ (s' = sz ∨ m = 0) ∧ (n + m) * bytes ≤ room ∧ K ((σ.drain x).put d (.sl true sz (n + m) (cs ++ views ds)))
  | .sl true s n cs, .str ds => s = sz ∧ sz = 1 ∧ (n + ds.length) * bytes ≤ room ∧ K ((σ.drain x).put d (.sl true sz (n + ds.length) (cs ++ ds.map fun c => .int .u8 c.toNat)))
  | _, _ => False
def cvtStrW (σ : St) (d : Option Nat) (K : St → Prop) : AV → Prop
  | .sl _ sz _ cs => sz = 1 ∧ ∃ s : List UInt8, cs = (s.map fun c => .int .u8 c.toNat) ∧ K (σ.put d (.str s))
  | _ => False
def cvtBytesW (σ : St) (d : Option Nat) (K : St → Prop) : AV → Prop
  | .str s => K (σ.put d (.sl true 1 s.length (s.map fun c => .int .u8 c.toNat)))
  | _ => False
def makeSlW (bytes : Nat) (zero : List AV) (σ : St) (d : Option Nat) (K : St → Prop) : AV → AV → Prop
  | .int _ l, .int _ c => 0 ≤ l ∧ l ≤ c ∧ c * bytes ≤ room ∧
      ∀ b, σ.s b = none → K ({ σ with s := σ.s.set b (.cells ((List.replicate c.toNat zero).flatten)) }.put d (.arr b 0 l.toNat c.toNat))
  | _, _ => False
def makeOwW (sz bytes : Nat) (σ : St) (d : Option Nat) (K : St → Prop) : AV → Prop
  | .int _ c => 0 ≤ c ∧ c * bytes ≤ room ∧ K (σ.put d (.sl true sz 0 []))
  | _ => False
def okV (ok : Bool) (a : AV) (b : Bool) : AV := match ok with
  | true => .tup [a, .bool b]
  | false => a
def isU8 : AV → Bool
  | .int .u8 _ => true
  | _ => false
/-- A key of that kind. -/
def keyOK : KeyK → AV → Bool
  | .int k, .int k' _ => kEq k k'
  | .str, .str _ => true
  | .bool, .bool _ => true
  | .bytes n, .agg cs => cs.length == n && cs.all isU8
  | _, _ => false
def keysOK (kk : KeyK) (es : List (AV × AV)) : Bool := es.all fun x => keyOK kk x.1
def lookV (zero : AV) (ok : Bool) : Option AV → AV
  | some v => okV ok (view v) true
  | none => okV ok (view zero) false
/-- A value that no pointer into the frame hides in. -/
def plainV : AV → Bool
  | .tup _ => true
  | a => isV a
def plainL : Bool → AV → Bool
  | true, _ => true
  | false, a => isV a
def ckL (ok : Bool) (c : Prop) (a : AV) : PR := bif plainL ok a then .prt c a else .no
def lookupO (kk : KeyK) (zero : AV) (ok : Bool) (k : AV) : Option SO → PR
  | some (.map es) => ckL ok (keyOK kk k = true ∧ keysOK kk es = true) (lookV zero ok (findK k es))
  | _ => .no
def lookupV (kk : KeyK) (zero : AV) (ok : Bool) (s : Store) (k : AV) : AV → PR
  | .mp b => lookupO kk zero ok k (s b)
  | .nilm => ckL ok (keyOK kk k = true) (okV ok (view zero) false)
  | _ => .no
def rowV : AV → PR
  | .sl true 1 (n + 1) cs => .tot (.sl false 1 (n + 1) cs)
  | _ => .no
def tupV : AV → PR
  | .tup vs => .tot (.tup (views vs))
  | _ => .no
/-- What brings a value up. -/
def prK (σ : St) (d : Option Nat) (K : St → Prop) : PR → Prop
  | .tot a => K (σ.put d a)
  | .prt c a => c ∧ K (σ.put d a)
  | .no => False
def updO (kk : KeyK) (b : Nat) (σ : St) (k v : AV) (d : Option Nat) (K : St → Prop) : Option SO → Prop
  | some (.map es) => (isV v = true ∧ keyOK kk k = true ∧ keysOK kk es = true) ∧ K ({ σ with s := σ.s.set b (.map (putK (view k) (view v) es)) }.put d (.tup []))
  | _ => False
def mapUpdW (kk : KeyK) (σ : St) (k v : AV) (d : Option Nat) (K : St → Prop) : AV → Prop
  | .mp b => updO kk b σ k v d K (σ.s b)
  | _ => False
/-- Behind a call. -/
def rsOK : List AV → Bool
  | [a] => isV a
  | _ => true
def callK (σ : St) (d : Option Nat) (K : St → Prop) (rs : List AV) (s' : Store) : Prop := rsOK rs = true ∧ K ({ σ with s := s' }.put d (retV rs))
def callW (f : Nat) (σ : St) (d : Option Nat) (K : St → Prop) : Option (List AV) → Prop
  | some args => FN P f args σ.s (callK σ d K)
  | none => False
def fnOK (f : FuncId) : Bool := match P.funcs[f]? with
  | some fn => fn.name != "runtime.NumGoroutine" && fn.body.isSome
  | none => false
def callvA (f : Nat) (first caps : List AV) (σ : St) (d : Option Nat) (K : St → Prop) : Option (List AV) → Prop
  | some args => fnOK P f = true ∧ FN P f (first ++ args ++ caps) σ.s (callK σ d K)
  | none => False
def callvW (σ : St) (args : Option (List AV)) (d : Option Nat) (K : St → Prop) : AV → Prop
  | .fn f first caps => callvA P f first caps σ d K args
  | _ => False

def xg (g : Bool) (σ : St) (x : IX) : AV := unw g (σ.x x)

/-- Operations that do more than compute. -/
def iwp (o : IOp) (d : Option Nat) (σ : St) (K : St → Prop) : Prop :=
  match o with
  | .mov _ x => movW σ x d K (σ.x x)
  | .allocL zero => lpFree σ.lp d = true ∧ K (σ.put d (.loc zero))
  | .allocS zero => ∀ b, σ.s b = none → K ({ σ with s := σ.s.set b (.cells zero) }.put d (.ref b 0))
  | .boxL n x => lpFree σ.lp d = true ∧ boxLW n σ d K (σ.x x)
  | .boxS n x => boxSW n σ d K (σ.x x)
  | .buildSl sz n zero parts => buildSlW sz n σ d K (fill (xg true σ) zero parts)
  | .store n p v => storeW n σ p v d K (σ.x v)
  | .append sz bytes x y => appendW sz bytes σ x d K (σ.x x) (σ.x y)
  | .cvtStr x => cvtStrW σ d K (xg true σ x)
  | .cvtBytes x => cvtBytesW σ d K (xg true σ x)
  | .makeSl _ bytes zero l c => makeSlW bytes zero σ d K (xg true σ l) (xg true σ c)
  | .makeOw sz bytes c => makeOwW sz bytes σ d K (xg true σ c)
  | .makeMap => ∀ b, σ.s b = none → K ({ σ with s := σ.s.set b (.map []) }.put d (.mp b))
  | .call f args => callW P f σ d K (argsV (xg true σ) args)
  | .callv x args => callvW P σ (argsV (xg true σ) args) d K (xg true σ x)
  | .lookup kk zero ok x k => prK σ d K (lookupV kk zero ok σ.s (xg true σ k) (xg true σ x))
  | .cvtRow x => prK σ d K (rowV (xg true σ x))
  | .movT x => prK σ d K (tupV (xg true σ x))
  | .mapUpdate kk x k v => mapUpdW kk σ (xg true σ k) (xg true σ v) d K (xg true σ x)
  | _ => False

def lpReg (σ : St) : AV → Option Nat → St
  | .lp t _, some i => { σ with lp := (i, t) :: σ.lp }
  | .when _ a, d => lpReg σ a d
  | _, _ => σ
def nxt (o : IOp) (σ : St) (d : Option Nat) (K : St → Prop) : PR → Prop
  | .tot a => K ((lpReg σ a d).put d a)
  | .prt c a => c ∧ K ((lpReg σ a d).put d a)
  | .no => iwp P o d σ K

/-- An operation that runs for certain. -/
def owp (o : IOp) (d : Option Nat) (σ : St) (K : St → Prop) : Prop := nxt P o σ d K (pv o (xg true σ) σ)

def nxg (g : Bool) (o : IOp) (σ : St) (d : Option Nat) (K : St → Prop) : PR → Prop
  | .tot a => K ((lpReg σ a d).put d (.when g a))
  | .prt c a => (g = true → c) ∧ K ((lpReg σ a d).put d (.when g a))
  | .no => (g = true → owp P o d σ K) ∧ (g = false → K (σ.put d (.tup [])))

def gsel (o : IOp) (d : Option Nat) (t : Nat) (want : Bool) (σ : St) (K : St → Prop) : AV → Prop
  | .bool b => nxg P (b == want) o σ d K (pv o (xg (b == want) σ) σ)
  | .when b' (.bool b) => (b' = true → (b == want) = true → owp P o d (σ.put (some t) (.bool b)) K) ∧ (b' = true → (b == want) = false → K (σ.put d (.tup []))) ∧ (b' = false → K ((σ.put (some t) (.tup [])).put d (.tup [])))
  | .tup [] => K (σ.put d (.tup []))
  | _ => False

def gwp (o : IOper) (σ : St) (K : St → Prop) : Prop :=
  match o.g with
  | none => owp P o.op o.dst σ K
  | some (t, want) => gsel P o.op o.dst t want σ K (look σ.e t)

def swp : List IOper → St → (St → Prop) → Prop
  | [], σ, K => K σ
  | o :: r, σ, K => gwp P o σ (fun τ => swp r τ K)

def swpK (r : List IOper) (K : St → Prop) (τ : St) : Prop := swp P r τ K

def notLoc : AV → Bool
  | .loc _ => false
  | _ => true
/-- An operation that only computes, under its guard or without one. -/
def wPR (g : Bool) : PR → PR
  | .tot a => .tot (.when g a)
  | .prt c a => .prt (g = true → c) (.when g a)
  | .no => .no
def qvG (o : IOp) (want : Bool) (σ : St) : AV → PR
  | .bool b => wPR (b == want) (pv o (xg (b == want) σ) σ)
  | _ => .no
def qv (o : IOper) (σ : St) : PR := match o.g with
  | none => pv o.op (xg true σ) σ
  | some (t, want) => qvG o.op want σ (look σ.e t)
def qK (σ : St) (d : Option Nat) (K : St → Prop) : PR → Prop
  | .tot a => notLoc a = true ∧ K ((lpReg σ a d).put d a)
  | .prt c a => c ∧ notLoc a = true ∧ K ((lpReg σ a d).put d a)
  | .no => False
def qCall (f : Nat) (σ : St) (d : Option Nat) (K : St → Prop) : Option (List AV) → Prop
  | some as => ∃ rs, rsOK rs = true ∧ FE P f as σ.s rs σ.s ∧ K (σ.put d (retV rs))
  | none => False
/-- Under a guard. -/
def qCallG (f : Nat) (args : List IX) (want : Bool) (σ : St) (d : Option Nat) (K : St → Prop) : AV → Prop
  | .bool b => ∃ rs, rsOK rs = true ∧ ((b == want) = true → ∃ as, argsV (xg (b == want) σ) args = some as ∧ FE P f as σ.s rs σ.s) ∧ K (σ.put d (.when (b == want) (retV rs)))
  | _ => False
def qStr (σ : St) (d : Option Nat) (K : St → Prop) : AV → Prop
  | .sl _ sz _ cs => sz = 1 ∧ ∃ s : List UInt8, cs = (s.map fun c => .int .u8 c.toNat) ∧ K (σ.put d (.str s))
  | _ => False
def qBytes (σ : St) (d : Option Nat) (K : St → Prop) : AV → Prop
  | .str s => K (σ.put d (.sl true 1 s.length (s.map fun c => .int .u8 c.toNat)))
  | _ => False
def qBuild (sz n : Nat) (σ : St) (d : Option Nat) (K : St → Prop) : Option (List AV) → Prop
  | some cs => cs.length = n * sz ∧ K (σ.put d (.sl true sz n cs))
  | none => False
/-- Operations that bring up a new row. -/
def bytesPR : AV → PR
  | .str s => .tot (.sl true 1 s.length (s.map fun c => .int .u8 c.toNat))
  | _ => .no
def rowPR (sz n : Nat) : Option (List AV) → PR
  | some cs => .prt (cs.length = n * sz) (.sl true sz n cs)
  | none => .no
def qe (f : IX → AV) (s : Store) : IOp → PR
  | .cvtBytes x => bytesPR (f x)
  | .buildSl sz n zero parts => rowPR sz n (fill f zero parts)
  | .lookup kk zero ok x k => lookupV kk zero ok s (f k) (f x)
  | .cvtRow x => rowV (f x)
  | .movT x => tupV (f x)
  | _ => .no
def qeG (o : IOp) (want : Bool) (σ : St) : AV → PR
  | .bool b => wPR (b == want) (qe (xg (b == want) σ) σ.s o)
  | _ => .no
def qeO (o : IOper) (σ : St) : PR := match o.g with
  | none => qe (xg true σ) σ.s o.op
  | some (t, want) => qeG o.op want σ (look σ.e t)
/-- One operation that may come up in any order. -/
def q1 (o : IOper) (σ : St) (K : St → Prop) : Prop :=
  match o with
  | ⟨d, .call f args, none⟩ => qCall P f σ d K (argsV (xg true σ) args)
  | ⟨d, .mov true x, none⟩ => movW σ x d K (σ.x x)
  | ⟨d, .call f args, some (t, want)⟩ => qCallG P f args want σ d K (look σ.e t)
  | ⟨d, .cvtBytes x, g⟩ => qK σ d K (qeO ⟨d, .cvtBytes x, g⟩ σ)
  | ⟨d, .buildSl sz n zero parts, g⟩ => qK σ d K (qeO ⟨d, .buildSl sz n zero parts, g⟩ σ)
  | ⟨d, .lookup kk zero ok x k, g⟩ => qK σ d K (qeO ⟨d, .lookup kk zero ok x k, g⟩ σ)
  | ⟨d, .cvtRow x, g⟩ => qK σ d K (qeO ⟨d, .cvtRow x, g⟩ σ)
  | ⟨d, .movT x, g⟩ => qK σ d K (qeO ⟨d, .movT x, g⟩ σ)
  | o => qK σ o.dst K (qv o σ)
def slotFree (σ : St) : Option Nat → Bool
  | some d => notLoc (look σ.e d)
  | none => true
/-- In a region that draws its order: so many operations that only compute or call and leave the store as it is; then those whose order is forced. -/
def qwp : Nat → List IOper → St → (St → Prop) → Prop
  | 0, l, σ, K => swp P l σ K
  | _ + 1, [], σ, K => K σ
  | q + 1, o :: r, σ, K => slotFree σ o.dst = true ∧ q1 P o σ (fun τ => qwp q r τ K)

def qwpK (q : Nat) (r : List IOper) (K : St → Prop) (τ : St) : Prop := qwp P q r τ K

def regK (live : List Nat) (Q : Exit → St → Prop) (τ : St) : Prop := Q .normal (τ.keep live)

def blkK (id : Nat) (Q : Exit → St → Prop) : Exit → St → Prop
  | .exit i, τ => bif i == id then Q .normal τ else Q (.exit i) τ
  | x, τ => Q x τ

def loopK (live : List (Nat × Bool)) (I : St → Prop) (μ : St → Nat) (m : Nat) (Q : Exit → St → Prop) : Exit → St → Prop
  | .normal, ρ => I (ρ.keepV live) ∧ μ (ρ.keepV live) < m
  | x, ρ => Q x ρ

def joinK (live : List (Nat × Bool)) (J : St → Prop) (Q : Exit → St → Prop) : Exit → St → Prop
  | .normal, ρ => J (ρ.keepV live)
  | x, ρ => Q x ρ

def cwp : IC → (Exit → St → Prop) → St → Prop
  | .skip, Q, σ => Q .normal σ
  | .reg q ops live, Q, σ => match q with
    | none => swp P ops σ (regK live Q)
    | some q => qwp P q ops σ (regK live Q)
  | .seq a b, Q, σ => cwp a (fun x τ => match x with | .normal => cwp b Q τ | x => Q x τ) σ
  | .cond c a b, Q, σ => match σ.x c with
    | .bool v => (v = true → cwp a Q σ) ∧ (v = false → cwp b Q σ)
    | _ => False
  | .block id b, Q, σ => cwp b (blkK id Q) σ
  | .loop live b, Q, σ => ∃ (I : St → Prop) (μ : St → Nat), I (σ.keepV live) ∧ ∀ τ, I τ → cwp b (loopK live I μ (μ τ) Q) τ
  | .join live a b, Q, σ => ∃ J : St → Prop, cwp a (joinK live J Q) σ ∧ ∀ τ, J τ → cwp b Q τ
  | .exit id, Q, σ => Q (.exit id) σ
  | .scope b, Q, σ => cwp b (fun x τ => match x with | .goto _ => False | x => Q x τ) σ
  | .label _, Q, σ => Q .normal σ
  | .goto l, Q, σ => Q (.goto l) σ
  | .ret, Q, σ => Q .ret σ

def seqK (b : IC) (Q : Exit → St → Prop) : Exit → St → Prop
  | .normal, τ => cwp P b Q τ
  | x, τ => Q x τ
def scopeK (Q : Exit → St → Prop) : Exit → St → Prop
  | .goto _, _ => False
  | x, τ => Q x τ
def condW (a b : IC) (Q : Exit → St → Prop) (σ : St) : AV → Prop
  | .bool v => (v = true → cwp P a Q σ) ∧ (v = false → cwp P b Q σ)
  | _ => False
end

end Go.AB
