/- The typed layer, part 3: objects of the store, maps, rows that are written in place. -/
import Derived.Test.YtbinmjafmcaehaaTy2
namespace Go.AB
open Go

def SubS (t s : Store) : Prop := ∀ b o, t b = some o → s b = some o
theorem SubS.refl (s : Store) : SubS s s := fun _ _ h => h
theorem SubS.trans {a b c : Store} (h : SubS a b) (k : SubS b c) : SubS a c := fun x o hx => k x o (h x o hx)
theorem SubS.set {t s : Store} {b : Nat} {o : SO} (h : SubS t s) (hb : t b = none) : SubS t (s.set b o) := fun c p hc => by
  unfold Store.set
  by_cases hcb : c = b
  · subst hcb; rw [hb] at hc; cases hc
  · rw [if_neg hcb]; exact h c p hc
theorem SubS.mono {t s : Store} {b : Nat} {o : SO} (h : SubS t s) : SubS (t.set b o) (s.set b o) := fun c p hc => by
  unfold Store.set at hc ⊢
  by_cases hcb : c = b
  · rw [if_pos hcb] at hc ⊢; exact hc
  · rw [if_neg hcb] at hc ⊢; exact h c p hc

variable {P : Program}
/-- What is no longer wanted is forgotten. -/
theorem FN.forget {f : FuncId} {args : List AV} {s : Store} {Q : List AV → Store → Prop} (h : FN P f args s fun rs t => ∃ t', SubS t' t ∧ Q rs t') : FN P f args s Q := by
  intro G w vs h1 h2 h3 h4
  refine (h G w vs h1 h2 h3 h4).mono fun e w' ⟨v, rs, s', G', a1, ⟨t', ht, hq⟩, a3, a4, a5⟩ => ⟨v, rs, t', G', a1, hq, a3, fun b o hb => a4 b o (ht b o hb), a5⟩

theorem set_same (s : Store) (b : Nat) (o : SO) : (s.set b o) b = some o := by simp [Store.set]
theorem set_ne {s : Store} {b c : Nat} {o : SO} (h : c ≠ b) : (s.set b o) c = s c := by simp [Store.set, h]
theorem set_set (s : Store) (b : Nat) (o p : SO) : (s.set b o).set b p = s.set b p := by
  funext c; unfold Store.set; by_cases h : c = b <;> simp [h]
theorem set_comm {a b : Nat} (h : a ≠ b) {s : Store} {o p : SO} : (s.set b p).set a o = (s.set a o).set b p := by
  funext c; unfold Store.set
  by_cases ha : c = a
  · subst ha; simp [h]
  · simp [ha]
theorem set_eq {s : Store} {b : Nat} {o : SO} (h : s b = some o) : s = s.set b o := by
  funext c; unfold Store.set
  by_cases hc : c = b
  · subst hc; simp [h]
  · simp [hc]
theorem set_eq' {s : Store} {b : Nat} {o : SO} (h : s b = some o) : s.set b o = s := (set_eq h).symm
theorem set_none (s : Store) (b c : Nat) (o : SO) : ((s.set b o) c = none) = (c ≠ b ∧ s c = none) := by
  unfold Store.set
  by_cases hc : c = b <;> simp [hc]
theorem ne_of_none {s : Store} {b c : Nat} {o : SO} (h : s b = some o) (hc : s c = none) : c ≠ b := fun e => by subst e; rw [h] at hc; cases hc
attribute [go_sem] set_same set_set

theorem ok_mono {α : Type} {o : Option α} {K K' : α → Prop} (h : ok o K) (hk : ∀ r, K r → K' r) : ok o K' := h.imp fun r ⟨h1, h2⟩ => ⟨h1, hk r h2⟩

section
variable (Q : Exit → St → Prop) (σ τ : St)
@[go_sem] theorem cwp_scope (b : IC) : cwp P (.scope b) Q σ = cwp P b (scopeK Q) σ := by
  have : (fun x τ => match x with | .goto _ => False | x => Q x τ) = scopeK Q := by
    funext e τ; cases e <;> rfl
  show cwp P b (fun x τ => match x with | .goto _ => False | x => Q x τ) σ = _
  rw [this]
@[go_sem] theorem scopeK_normal : scopeK Q .normal τ = Q .normal τ := rfl
@[go_sem] theorem scopeK_ret : scopeK Q .ret τ = Q .ret τ := rfl
@[go_sem] theorem scopeK_exit (i : Nat) : scopeK Q (.exit i) τ = Q (.exit i) τ := rfl
end

/-- An array's cell at a known place. -/
def aindexN (sz len n : Nat) (x : IX) : AV → PR
  | .lp d o => .prt (n + 1 ≤ len) (.lp d (o + n * sz))
  | .sp cs => bif decide (len * sz ≤ cs.length) then .prt (n + 1 ≤ len) (.sp (cs.drop (n * sz))) else .no
  | .ref b o => .prt (n + 1 ≤ len) (.ref b (o + n * sz))
  | .loc _ => locA (n + 1 ≤ len) (n * sz) x
  | _ => .no
theorem aindex_nat (sz len n : Nat) (x : IX) (k : IntKind) (av : AV) : aindexAddrV sz len x av (.int k (n : Int)) = aindexN sz len n x av := by
  have h : (0 ≤ (n : Int) ∧ (n : Int) < (len : Int)) = (n + 1 ≤ len) := by
    apply propext; constructor <;> intro h <;> omega
  cases av <;> first | rfl | simp only [aindexAddrV, aindexN, h, Int.toNat_natCast]
@[go_sem] theorem aindex_lit (sz len n : Nat) (x : IX) (k : IntKind) (av : AV) : aindexAddrV sz len x av (.int k (no_index (OfNat.ofNat n))) = aindexN sz len n x av := aindex_nat sz len n x k av
attribute [go_sem] aindexN.eq_1 aindexN.eq_2 aindexN.eq_3 aindexN.eq_4

/-- A row that is written in place: how long it says it is, and what it holds. -/
structure MSl (α : Type) where
  n : Nat
  l : List α

def updL {α : Type} (l : List α) (i : Int) (x : α) : List α := l.take i.toNat ++ [x] ++ l.drop (i.toNat + 1)
theorem flat_upd {α : Type} [Enc α] (l : List α) (i : Int) (x : α) (n : Nat) (hn : n = Enc.w α) : setAt (flat l) (i.toNat * n) (Enc.cells x) = flat (updL l i x) := by
  subst hn
  unfold setAt updL
  rw [flat_append, flat_append, flat_cons, flat_nil, List.append_nil, flat_take, Enc.len]
  congr 1
  rw [show i.toNat * Enc.w α + Enc.w α = (i.toNat + 1) * Enc.w α from by rw [Nat.add_mul, Nat.one_mul], flat_drop]
@[go_sem] theorem upd_int (l : List Int) (i x : Int) : setAt (flat l) (i.toNat * 1) [.int .i64 x] = flat (updL l i x) := flat_upd l i x 1 rfl
@[go_sem] theorem upd_u8 (l : List UInt8) (i : Int) (x : UInt8) : setAt (flat l) (i.toNat * 1) [.int .u8 x.toNat] = flat (updL l i x) := flat_upd l i x 1 rfl
@[go_sem] theorem upd_u32 (l : List UInt32) (i : Int) (x : UInt32) : setAt (flat l) (i.toNat * 1) [.int .u32 x.toNat] = flat (updL l i x) := flat_upd l i x 1 rfl
@[go_sem] theorem upd_bool (l : List Bool) (i : Int) (x : Bool) : setAt (flat l) (i.toNat * 1) [.bool x] = flat (updL l i x) := flat_upd l i x 1 rfl
@[go_sem] theorem setAt_cons (a : AV) (l : List AV) (off : Nat) (news : List AV) : setAt (a :: l) off news = (a :: l).take off ++ news ++ (a :: l).drop (off + news.length) := rfl
@[go_sem] theorem pad_cons (z : List AV) (a : AV) (l : List AV) : pad z (a :: l) = bif (a :: l).length == z.length then a :: l else z := rfl
@[go_sem] theorem rep_flat {α : Type} [Enc α] (n : Nat) (z : α) : (List.replicate n (Enc.cells z)).flatten = flat (List.replicate n z) := by simp [flat]

section
variable {d d' : Option Nat} {K : St → Prop} {σ : St} {b off : Nat} {news old : List AV}
@[go_sem] theorem stK_wrS : stK d K (wrS σ b (wrCells off news old)) = (off + news.length ≤ old.length ∧ K (({ σ with s := σ.s.set b (.cells (setAt old off news)) } : St).put d (.tup []))) := by
  unfold wrCells
  by_cases h : off + news.length ≤ old.length
  · simp [h, wrS, stK]
  · simp [h, wrS, stK]
@[go_sem] theorem stK_wrL {i : Nat} : stK d K (wrL σ i (wrCells off news old)) = (off + news.length ≤ old.length ∧ K ((σ.put (some i) (.loc (setAt old off news))).put d (.tup []))) := by
  unfold wrCells
  by_cases h : off + news.length ≤ old.length
  · simp [h, wrL, stK]
  · simp [h, wrL, stK]
end

theorem u8_inj (a b : UInt8) : ((a.toNat : Int) = (b.toNat : Int)) = (a = b) := by
  rw [Int.natCast_inj, UInt8.toNat_inj]
@[go_sem] theorem natCast_lit (n : Nat) : (((no_index (OfNat.ofNat n)) : Nat) : Int) = OfNat.ofNat n := rfl
@[go_sem] theorem u8_zero : ((UInt8.toNat 0 : Nat) : Int) = 0 := rfl
@[go_sem] theorem u8_one : ((UInt8.toNat 1 : Nat) : Int) = 1 := rfl
/-- A map as a list. -/
def mfind {κ ν : Type} [BEq κ] (m : List (κ × ν)) (k : κ) : Option ν := match m with
  | [] => none
  | x :: r => bif k == x.1 then some x.2 else mfind r k
def mget {κ ν : Type} [BEq κ] (z : ν) (m : List (κ × ν)) (k : κ) : ν := (mfind m k).getD z
def mhas {κ ν : Type} [BEq κ] (m : List (κ × ν)) (k : κ) : Bool := (mfind m k).isSome
def mput {κ ν : Type} [BEq κ] (m : List (κ × ν)) (k : κ) (v : ν) : List (κ × ν) := match m with
  | [] => [(k, v)]
  | x :: r => bif k == x.1 then (k, v) :: r else x :: mput r k v
def encM {κ ν : Type} (ek : κ → AV) (ev : ν → AV) (m : List (κ × ν)) : List (AV × AV) := m.map fun p => (ek p.1, ev p.2)
theorem keysOK_enc {κ ν : Type} {ek : κ → AV} {ev : ν → AV} {kk : KeyK} (h : ∀ a, keyOK kk (ek a) = true) (m : List (κ × ν)) : keysOK kk (encM ek ev m) = true := by
  unfold keysOK encM
  simp [h]
section
variable {κ ν : Type} [BEq κ] {ek : κ → AV} {ev : ν → AV}
theorem findK_enc (hk : ∀ a b, keyIs (ek a) (ek b) = (a == b)) (m : List (κ × ν)) (k : κ) : findK (ek k) (encM ek ev m) = (mfind m k).map ev := by
  induction m with
  | nil => rfl
  | cons x m ih =>
    show (bif keyIs (ek k) (ek x.1) then some (ev x.2) else findK (ek k) (encM ek ev m)) = _
    rw [hk, ih]
    show _ = (bif k == x.1 then some x.2 else mfind m k).map ev
    cases k == x.1 <;> rfl
theorem putK_enc (hk : ∀ a b, keyIs (ek a) (ek b) = (a == b)) (m : List (κ × ν)) (k : κ) (v : ν) : putK (ek k) (ev v) (encM ek ev m) = encM ek ev (mput m k v) := by
  induction m with
  | nil => rfl
  | cons x m ih =>
    show (bif keyIs (ek k) (ek x.1) then (ek k, ev v) :: encM ek ev m else (ek x.1, ev x.2) :: putK (ek k) (ev v) (encM ek ev m)) = _
    rw [hk, ih]
    show _ = encM ek ev (bif k == x.1 then (k, v) :: m else x :: mput m k v)
    cases k == x.1 <;> rfl
theorem lookupO_enc {kk : KeyK} {z : ν} {za : AV} (h : ∀ a, keyOK kk (ek a) = true) (hk : ∀ a b, keyIs (ek a) (ek b) = (a == b)) (hz : view za = ev z) (hv : ∀ a, view (ev a) = ev a) (hi : ∀ a, isV (ev a) = true) (ok : Bool) (m : List (κ × ν)) (k : κ) :
    lookupO kk za ok (ek k) (some (.map (encM ek ev m))) = .prt True (okV ok (ev (mget z m k)) (mhas m k)) := by
  show ckL ok (keyOK kk (ek k) = true ∧ keysOK kk (encM ek ev m) = true) (lookV za ok (findK (ek k) (encM ek ev m))) = _
  rw [findK_enc hk, h, keysOK_enc h]
  unfold mget mhas
  cases mfind m k with
  | none =>
    show ckL ok _ (okV ok (view za) false) = _
    rw [hz]
    cases ok <;> simp [ckL, plainL, okV, hi]
  | some v =>
    show ckL ok _ (okV ok (view (ev v)) true) = _
    rw [hv]
    cases ok <;> simp [ckL, plainL, okV, hi]
theorem updO_enc {kk : KeyK} {b : Nat} {σ : St} {d : Option Nat} {K : St → Prop} (h : ∀ a, keyOK kk (ek a) = true) (hk : ∀ a b, keyIs (ek a) (ek b) = (a == b)) (hkv : ∀ a, view (ek a) = ek a) (m : List (κ × ν)) (k : κ) (v : ν) (hv : view (ev v) = ev v) (hi : isV (ev v) = true) :
    updO kk b σ (ek k) (ev v) d K (some (.map (encM ek ev m))) = K ({ σ with s := σ.s.set b (.map (encM ek ev (mput m k v))) }.put d (.tup [])) := by
  show ((isV (ev v) = true ∧ keyOK kk (ek k) = true ∧ keysOK kk (encM ek ev m) = true) ∧ K ({ σ with s := σ.s.set b (.map (putK (view (ek k)) (view (ev v)) (encM ek ev m))) }.put d (.tup []))) = _
  rw [hkv, hv, putK_enc hk, h, keysOK_enc h, hi]
  simp
end
theorem keyIs_int (a b : Int) : keyIs (.int .i64 a) (.int .i64 b) = (a == b) := by simp [keyIs, cellsOf, keyEqs, keyEq]
theorem keyIs_str (a b : Str) : keyIs (.str a.b) (.str b.b) = (a == b) := by
  rw [Bool.eq_iff_iff]
  simp only [keyIs, cellsOf, keyEqs, keyEq, Bool.and_true, beq_iff_eq]
  cases a; cases b; simp

attribute [go_sem] mapUpdW.eq_1
@[go_sem] theorem encM_len {κ ν : Type} (ek : κ → AV) (ev : ν → AV) (m : List (κ × ν)) : (encM ek ev m).length = m.length := by simp [encM]
theorem encM_nil {κ ν : Type} (ek : κ → AV) (ev : ν → AV) : encM ek ev [] = [] := rfl
@[go_sem] theorem rep_int (n : Nat) : (List.replicate n [AV.int .i64 0]).flatten = flat (List.replicate n (0 : Int)) := rep_flat n (0 : Int)
@[go_sem] theorem rep_u8 (n : Nat) : (List.replicate n [AV.int .u8 0]).flatten = flat (List.replicate n (0 : UInt8)) := rep_flat n (0 : UInt8)
@[go_sem] theorem rep_u32 (n : Nat) : (List.replicate n [AV.int .u32 0]).flatten = flat (List.replicate n (0 : UInt32)) := rep_flat n (0 : UInt32)
@[go_sem] theorem rep_bool (n : Nat) : (List.replicate n [AV.bool false]).flatten = flat (List.replicate n false) := rep_flat n false
end Go.AB
