/- A part of the proof: Ab23, Ty1, Ty2, Ty3, Ab24, Row, Pure1, Mix2, Val1, Ovl, Val2, Val3, It, Ab25, Rg0, Rk0, Spm, Spn, Row2, Rkr, Rk1, Spq. -/
import Derived.Test.YtpioecahefokmaaRangesMissing3
import Derived.ProofKit
import Derived.Test.YtpioecahefokmaaRangesMissing1
import Derived.Test.YtpioecahefokmaaProg
import Derived.KernelRfl
import Derived.Laws.Externs
set_option linter.unusedSimpArgs false
set_option linter.unusedVariables false
section
namespace Go.AB
open Go Go.RowKit

/-- At a law's start: nothing that is there may change. -/
def rowsOf (w : World) (b : Nat) : Nat := match w.heap[b]? with
  | some (.cells c _ _) => c.size
  | _ => 0
def noStore : Store := fun _ => none

section
variable {P : Program} {w w' : World}

theorem law_calls {f : FuncId} {args : List AV} {vs : Array Value} (hf : FN P f args noStore fun rs _ => rs = [.bool true]) (ha : ArgsR w (rowsOf w) args vs) :
    Calls P f vs w fun e w' => e = .returned (.bool true) ∧ Below w.heap.size w w' := by
  refine (hf ⟨rowsOf w, fun _ => .none⟩ w vs ⟨fun _ _ => rfl, fun b hb => ?_⟩ (fun b => .inl rfl) (fun b o h => by cases h) ha).mono fun e w' ⟨v, rs, s', G', he, hq, _, _, hr, hp⟩ => ?_
  · show rowsOf w b = 0
    unfold rowsOf
    rw [Array.getElem?_eq_none hb]
  · subst hq
    refine ⟨?_, ⟨hp.os, hp.tape, hp.output, hp.size, fun b hb => hp.frame b hb (.inr rfl)⟩⟩
    rw [he]
    have := VR.inv_bool hr.1
    rw [this]

end
end Go.AB
end

section
namespace Go.AB
open Go

theorem views_append (a b : List AV) : views (a ++ b) = views a ++ views b := by simp [views]
theorem views_flatten : ∀ l : List (List AV), (∀ x ∈ l, views x = x) → views l.flatten = l.flatten
  | [], _ => rfl
  | a :: l, h => by rw [List.flatten_cons, views_append, h a List.mem_cons_self, views_flatten l fun x hx => h x (List.mem_cons_of_mem _ hx)]

class Enc (α : Type) where
  w : Nat
  cells : α → List AV
  zero : α
  pos : 0 < w
  len : ∀ x, (cells x).length = w
  vw : ∀ x, views (cells x) = cells x

/-- A string. -/
structure Str where
  b : List UInt8
  deriving DecidableEq, Inhabited

section
variable {α : Type} [Enc α]
/-- A row of values as cells. -/
def flat (l : List α) : List AV := (l.map Enc.cells).flatten
def ix (l : List α) (i : Int) : α := l.getD i.toNat Enc.zero

theorem flat_len : ∀ l : List α, (flat l).length = l.length * Enc.w α
  | [] => by simp [flat]
  | a :: l => by
    have := flat_len l
    simp only [flat, List.map_cons, List.flatten_cons, List.length_append, Enc.len] at this ⊢
    rw [this, List.length_cons, Nat.add_mul, Nat.one_mul, Nat.add_comm]
@[go_sem] theorem flat_nil : flat ([] : List α) = [] := rfl
@[go_sem] theorem flat_cons (a : α) (l : List α) : flat (a :: l) = Enc.cells a ++ flat l := rfl
@[go_sem] theorem flat_append (a b : List α) : flat (a ++ b) = flat a ++ flat b := by simp [flat]
@[go_sem] theorem flat_views (l : List α) : views (flat l) = flat l := views_flatten _ fun x hx => by
  obtain ⟨y, _, rfl⟩ := List.mem_map.1 hx
  exact Enc.vw y
theorem flat_drop (l : List α) : ∀ k, (flat l).drop (k * Enc.w α) = flat (l.drop k) := by
  induction l with
  | nil => intro k; simp [flat]
  | cons a l ih => intro k; cases k with
    | zero => simp
    | succ k =>
      rw [flat_cons, List.drop_succ_cons, ← ih k, Nat.succ_mul, Nat.add_comm, ← List.drop_drop]
      congr 1
      rw [← Enc.len a, List.drop_left]
theorem flat_take (l : List α) : ∀ k, (flat l).take (k * Enc.w α) = flat (l.take k) := by
  induction l with
  | nil => intro k; simp [flat]
  | cons a l ih => intro k; cases k with
    | zero => simp [flat_nil]
    | succ k =>
      rw [flat_cons, List.take_succ_cons, flat_cons, ← ih k, Nat.succ_mul, Nat.add_comm, List.take_append]
      rw [Enc.len a, List.take_of_length_le (by rw [Enc.len]; omega)]
      congr 2
      omega
theorem flat_sub (l : List α) (n lo m : Nat) (hn : n = Enc.w α) : AB.sub (flat l) (lo * n) (m * n) = flat ((l.drop lo).take m) := by
  subst hn
  unfold AB.sub
  rw [flat_drop, flat_take]
theorem flat_pad (z : List AV) (n : Nat) (l : List α) (i : Int) (hz : z = Enc.cells (Enc.zero : α)) (hn : n = Enc.w α) : pad z (views (AB.sub (flat l) (i.toNat * n) n)) = Enc.cells (ix l i) := by
  subst hn
  have h1 : AB.sub (flat l) (i.toNat * Enc.w α) (Enc.w α) = flat ((l.drop i.toNat).take 1) := by
    have := flat_sub l (Enc.w α) i.toNat 1 rfl
    rwa [Nat.one_mul] at this
  rw [h1, flat_views]
  unfold pad ix
  rcases Nat.lt_or_ge i.toNat l.length with hlt | hge
  · rw [List.drop_eq_getElem_cons hlt, List.take_succ_cons, List.take_zero, flat_cons, flat_nil, List.append_nil, hz, Enc.len, Enc.len, beq_self_eq_true]
    simp [List.getD, List.getElem?_eq_getElem hlt]
  · rw [List.drop_eq_nil_of_le hge, List.take_nil, flat_nil, hz, Enc.len]
    have : (([] : List AV).length == Enc.w α) = false := by
      have := Enc.pos (α := α)
      simp; omega
    rw [this]
    simp [List.getD, List.getElem?_eq_none hge]
/-- A row's part. -/
def part (l : List α) (lo hi : Int) : List α := (l.drop lo.toNat).take (hi - lo).toNat
theorem flat_part (n : Nat) (l : List α) (lo hi : Int) (hn : n = Enc.w α) : AB.sub (flat l) (lo.toNat * n) ((hi - lo).toNat * n) = flat (part l lo hi) := flat_sub l n _ _ hn
theorem flat_div (n : Nat) (l : List α) (hn : n = Enc.w α) : (flat l).length / n = l.length := by
  subst hn
  rw [flat_len]; exact Nat.mul_div_cancel _ Enc.pos
end

instance : Enc Bool := ⟨1, fun b => [.bool b], false, Nat.one_pos, fun _ => rfl, fun _ => rfl⟩
instance : Enc Int := ⟨1, fun n => [.int .i64 n], 0, Nat.one_pos, fun _ => rfl, fun _ => rfl⟩
instance : Enc UInt8 := ⟨1, fun n => [.int .u8 n.toNat], 0, Nat.one_pos, fun _ => rfl, fun _ => rfl⟩
instance : Enc UInt32 := ⟨1, fun n => [.int .u32 n.toNat], 0, Nat.one_pos, fun _ => rfl, fun _ => rfl⟩
instance : Enc UInt64 := ⟨1, fun n => [.int .u64 n.toNat], 0, Nat.one_pos, fun _ => rfl, fun _ => rfl⟩
instance : Enc Str := ⟨1, fun s => [.str s.b], ⟨[]⟩, Nat.one_pos, fun _ => rfl, fun _ => rfl⟩
instance {α : Type} [Enc α] : Enc (List α) := ⟨1, fun l => [.sl false (Enc.w α) l.length (flat l)], [], Nat.one_pos, fun _ => rfl, fun _ => rfl⟩
@[go_sem] theorem cells_bool (x : Bool) : Enc.cells x = [.bool x] := rfl
@[go_sem] theorem cells_int (x : Int) : Enc.cells x = [.int .i64 x] := rfl
@[go_sem] theorem cells_u8 (x : UInt8) : Enc.cells x = [.int .u8 x.toNat] := rfl
@[go_sem] theorem cells_u32 (x : UInt32) : Enc.cells x = [.int .u32 x.toNat] := rfl
@[go_sem] theorem cells_u64 (x : UInt64) : Enc.cells x = [.int .u64 x.toNat] := rfl
@[go_sem] theorem cells_str (x : Str) : Enc.cells x = [.str x.b] := rfl
@[go_sem] theorem cells_list {α : Type} [Enc α] (x : List α) : Enc.cells x = [.sl false (Enc.w α) x.length (flat x)] := rfl
@[go_sem] theorem w_bool : Enc.w Bool = 1 := rfl
@[go_sem] theorem w_int : Enc.w Int = 1 := rfl
@[go_sem] theorem w_u8 : Enc.w UInt8 = 1 := rfl
@[go_sem] theorem w_u32 : Enc.w UInt32 = 1 := rfl
@[go_sem] theorem w_u64 : Enc.w UInt64 = 1 := rfl
@[go_sem] theorem w_str : Enc.w Str = 1 := rfl
@[go_sem] theorem w_list {α : Type} [Enc α] : Enc.w (List α) = 1 := rfl
@[go_sem] theorem pad_bool (l : List Bool) (i : Int) : pad [.bool false] (views (AB.sub (flat l) (i.toNat * 1) 1)) = [.bool (ix l i)] := flat_pad _ 1 l i rfl rfl
@[go_sem] theorem pad_int (l : List Int) (i : Int) : pad [.int .i64 0] (views (AB.sub (flat l) (i.toNat * 1) 1)) = [.int .i64 (ix l i)] := flat_pad _ 1 l i rfl rfl
@[go_sem] theorem pad_u8 (l : List UInt8) (i : Int) : pad [.int .u8 0] (views (AB.sub (flat l) (i.toNat * 1) 1)) = [.int .u8 (ix l i).toNat] := flat_pad _ 1 l i rfl rfl
@[go_sem] theorem pad_u32 (l : List UInt32) (i : Int) : pad [.int .u32 0] (views (AB.sub (flat l) (i.toNat * 1) 1)) = [.int .u32 (ix l i).toNat] := flat_pad _ 1 l i rfl rfl
@[go_sem] theorem pad_str (l : List Str) (i : Int) : pad [.str []] (views (AB.sub (flat l) (i.toNat * 1) 1)) = [.str (ix l i).b] := flat_pad _ 1 l i rfl rfl
@[go_sem] theorem pad_list {α : Type} [Enc α] (l : List (List α)) (i : Int) (n : Nat) (hn : n = Enc.w α) : pad [.sl false n 0 []] (views (AB.sub (flat l) (i.toNat * 1) 1)) = [.sl false (Enc.w α) (ix l i).length (flat (ix l i))] := by
  subst hn
  exact flat_pad _ 1 l i rfl rfl
end Go.AB
end

section
namespace Go.AB
open Go

/-- It comes to something that is so. -/
def ok {α : Type} (o : Option α) (K : α → Prop) : Prop := ∃ a, o = some a ∧ K a
/-- It goes on only where that holds. -/
def need {α : Type} (c : Prop) [Decidable c] (o : Option α) : Option α := if c then o else none
/-- What is reckoned only under a guard. -/
def whenB {α : Type} (g : Bool) (z : α) (o : Option α) : Option α := bif g then o else some z
def bnd {α β : Type} (o : Option α) (f : α → Option β) : Option β := match o with
  | some a => f a
  | none => none
def iterN {S O : Type} (body : S → Option (S ⊕ O)) : Nat → S → Option O
  | 0, _ => none
  | n + 1, s => match body s with
    | none => none
    | some (.inl t) => iterN body n t
    | some (.inr o) => some o
def iter {S O : Type} (body : S → Option (S ⊕ O)) (s : S) : Option O := iterN body 18446744073709551616 s
def caseS {A B C : Type} (f : A → C) (g : B → C) : A ⊕ B → C
  | .inl a => f a
  | .inr b => g b

section
variable {α β : Type} (K : α → Prop)
@[go_sem] theorem ok_some (a : α) : ok (some a) K = K a := by simp [ok]
@[go_sem] theorem ok_none : ok none K = False := by simp [ok]
@[go_sem] theorem ok_need (c : Prop) [Decidable c] (o : Option α) : ok (need c o) K = (c ∧ ok o K) := by
  unfold need
  by_cases h : c <;> simp [h, ok]
@[go_sem] theorem ok_bnd (o : Option β) (f : β → Option α) : ok (bnd o f) K = ok o (fun b => ok (f b) K) := by cases o <;> simp [bnd, ok]
@[go_sem] theorem ok_ite (c : Bool) (a b : Option α) : ok (if c = true then a else b) K = ((c = true → ok a K) ∧ (c = false → ok b K)) := by cases c <;> simp
theorem ok_when (g : Bool) (z : α) (o : Option α) : ok (whenB g z o) K = ∃ a, (g = true → o = some a) ∧ (g = false → a = z) ∧ K a := by
  cases g <;> simp [whenB, ok]
@[go_sem] theorem caseS_l {A B C : Type} (f : A → C) (g : B → C) (a : A) : caseS f g (.inl a) = f a := rfl
@[go_sem] theorem caseS_r {A B C : Type} (f : A → C) (g : B → C) (b : B) : caseS f g (.inr b) = g b := rfl
end

theorem and_to {A B C D : Prop} (h : A → C) (k : B → D) : A ∧ B → C ∧ D := fun x => ⟨h x.1, k x.2⟩
theorem im_to {p A B : Prop} (h : A → B) : (p → A) → p → B := fun x y => h (x y)
theorem tt_to {A : Prop} : A → A := fun h => h
/-- Under what the guard says. -/
theorem im_to' {p A B : Prop} (h : p → A → B) : (p → A) → p → B := fun x y => h y (x y)

variable {P : Program}

/-- A call. -/
theorem call_to {β : Type} {o : Option β} {kf : β → Prop} {f : FuncId} {as1 : List AV} {s : Store} {enc : β → List AV} {Q : List AV → Store → Prop}
    (hf : ∀ r, o = some r → FE P f as1 s (enc r) s) (hk : ∀ r, kf r → Q (enc r) s) : ok o kf → FN P f as1 s Q := fun ⟨r, h, k⟩ => FE.app (hf r h) (hk r k)
theorem call_to_q {β : Type} {o : Option β} {kf : β → Prop} {f : FuncId} {as1 : List AV} {s : Store} {enc : β → List AV} {Q : List AV → Prop}
    (hf : ∀ r, o = some r → FE P f as1 s (enc r) s) (hr : ∀ r, rsOK (enc r) = true) (hk : ∀ r, kf r → Q (enc r)) : ok o kf → ∃ rs, rsOK rs = true ∧ FE P f as1 s rs s ∧ Q rs :=
  fun ⟨r, h, k⟩ => ⟨enc r, hr r, hf r h, hk r k⟩
theorem call_to_g {β : Type} {g : Bool} {z : β} {o : Option β} {kf : β → Prop} {f : FuncId} {as1 : Option (List AV)} {as2 : List AV} {s : Store} {enc : β → List AV} {Q : List AV → Prop}
    (ha : as1 = some as2) (hf : ∀ r, o = some r → FE P f as2 s (enc r) s) (hr : ∀ r, rsOK (enc r) = true) (hk : ∀ r, kf r → Q (enc r)) :
    ok (whenB g z o) kf → ∃ rs, rsOK rs = true ∧ (g = true → ∃ as2, as1 = some as2 ∧ FE P f as2 s rs s) ∧ Q rs := fun h => by
  rw [ok_when] at h
  obtain ⟨r, h1, _, k⟩ := h
  exact ⟨enc r, hr r, fun hg => ⟨as2, ha, hf r (h1 hg)⟩, hk r k⟩

/-- As ok: where ways meet it stays whole. -/
def okj {α : Type} (o : Option α) (K : α → Prop) : Prop := ok o K
/-- As bnd: where ways meet. -/
def jn {α β : Type} (o : Option α) (f : α → Option β) : Option β := bnd o f
@[go_sem] theorem ok_jn {α β : Type} (K : α → Prop) (o : Option β) (f : β → Option α) : ok (jn o f) K = okj o (fun b => ok (f b) K) := ok_bnd ..
/-- Where ways meet. -/
theorem join_to {X : Type} {M : Option X} {kf : X → Prop} {live : List (Nat × Bool)} {a b : IC} {Q : Exit → St → Prop} {σ : St} (enc : X → St)
    (ha : ∀ J : St → Prop, ok M (fun x => J (enc x)) → cwp P a (joinK live J Q) σ) (hb : ∀ x, kf x → cwp P b Q (enc x)) : okj M kf → cwp P (.join live a b) Q σ := fun ⟨x, h, k⟩ =>
  ⟨fun τ => ∃ x, τ = enc x ∧ kf x, ha _ ⟨x, h, x, rfl, k⟩, fun _ ⟨x, e, k⟩ => e ▸ hb x k⟩

theorem iterN_zero {S O : Type} {body : S → Option (S ⊕ O)} {s : S} {K : O → Prop} : ¬ ok (iterN body 0 s) K := fun ⟨_, h, _⟩ => by cases h
theorem iterN_succ {S O : Type} {body : S → Option (S ⊕ O)} {n : Nat} {s : S} {K : O → Prop} (h : ok (iterN body (n + 1) s) K) : ok (body s) (caseS (fun t => ok (iterN body n t) K) K) := by
  obtain ⟨o, h, k⟩ := h
  unfold iterN at h
  cases hb : body s with
  | none => rw [hb] at h; cases h
  | some x =>
    rw [hb] at h
    cases x with
    | inl t => exact ⟨_, rfl, ⟨o, h, k⟩⟩
    | inr o' => cases h; exact ⟨_, rfl, k⟩

theorem loopK_join {live : List (Nat × Bool)} {I : St → Prop} {μ : St → Nat} {m : Nat} {Q : Exit → St → Prop} : loopK live I μ m Q = joinK live (fun ρ => I ρ ∧ μ ρ < m) Q := by
  funext x ρ; cases x <;> rfl

/-- A loop. -/
theorem iter_to {S O : Type} {body : S → Option (S ⊕ O)} {s0 : S} {kf : O → Prop} {live : List (Nat × Bool)} {b : IC} {Q : Exit → St → Prop} {σ : St} (enc : S → St)
    (h0 : σ.keepV live = enc s0)
    (hb : ∀ (J : St → Prop) (s : S), ok (body s) (caseS (fun t => J (enc t)) kf) → cwp P b (joinK live J Q) (enc s)) : ok (iter body s0) kf → cwp P (.loop live b) Q σ := by
  intro h
  have hmin : ∀ τ, (∃ m s, τ = enc s ∧ ok (iterN body m s) kf) → ∃ m, (∃ s, τ = enc s ∧ ok (iterN body m s) kf) ∧ ∀ k, k < m → ¬ ∃ s, τ = enc s ∧ ok (iterN body k s) kf := by
    rintro τ ⟨m, s, h⟩
    induction m using Nat.strongRecOn generalizing s with
    | _ m ih =>
      by_cases hk : ∃ k, k < m ∧ ∃ s, τ = enc s ∧ ok (iterN body k s) kf
      · obtain ⟨k, hk, s', h'⟩ := hk
        exact ih k hk s' h'
      · exact ⟨m, ⟨s, h⟩, fun k hk' hs => hk ⟨k, hk', hs⟩⟩
  have hμ : ∃ μ : St → Nat, ∀ τ, (∃ m s, τ = enc s ∧ ok (iterN body m s) kf) → (∃ s, τ = enc s ∧ ok (iterN body (μ τ) s) kf) ∧ ∀ k, k < μ τ → ¬ ∃ s, τ = enc s ∧ ok (iterN body k s) kf := by
    exact ⟨fun τ => Classical.epsilon fun m => (∃ s, τ = enc s ∧ ok (iterN body m s) kf) ∧ ∀ k, k < m → ¬ ∃ s, τ = enc s ∧ ok (iterN body k s) kf, fun τ hτ => Classical.epsilon_spec (hmin τ hτ)⟩
  obtain ⟨μ, hμ⟩ := hμ
  refine ⟨fun τ => ∃ m s, τ = enc s ∧ ok (iterN body m s) kf, μ, ?_, ?_⟩
  · exact ⟨_, s0, h0, h⟩
  · intro τ hτ
    obtain ⟨⟨s, e, hs⟩, _⟩ := hμ τ hτ
    generalize hm : μ τ = m at hs
    cases m with
    | zero => exact (iterN_zero hs).elim
    | succ m =>
      subst e
      rw [loopK_join]
      obtain ⟨x, hx, k⟩ := iterN_succ hs
      refine hb _ s ⟨x, hx, ?_⟩
      cases x with
      | inr o => exact k
      | inl t =>
        refine ⟨⟨m, t, rfl, k⟩, ?_⟩
        have h2 := (hμ (enc t) ⟨m, t, rfl, k⟩).2
        rcases Nat.lt_or_ge m (μ (enc t)) with hlt | hge
        · exact (h2 m hlt ⟨t, rfl, k⟩).elim
        · omega

/-- Where ways meet, and others lead out. -/
def bndS {X Y α : Type} (M : Option (X ⊕ Y)) (F : X → Option α) (G : Y → Option α) : Option α := match M with
  | some (.inl x) => F x
  | some (.inr y) => G y
  | none => none
@[go_sem] theorem ok_bndS {X Y α : Type} (M : Option (X ⊕ Y)) (F : X → Option α) (G : Y → Option α) (K : α → Prop) : ok (bndS M F G) K = ok M (caseS (fun x => ok (F x) K) (fun y => ok (G y) K)) := by
  cases M with
  | none => simp [bndS, ok]
  | some x => cases x <;> simp [bndS, ok, caseS]
def jnS {X Y α : Type} (M : Option (X ⊕ Y)) (F : X → Option α) (G : Y → Option α) : Option α := bndS M F G
@[go_sem] theorem ok_jnS {X Y α : Type} (M : Option (X ⊕ Y)) (F : X → Option α) (G : Y → Option α) (K : α → Prop) : ok (jnS M F G) K = okj M (caseS (fun x => ok (F x) K) (fun y => ok (G y) K)) := ok_bndS ..
theorem join_toS {X Y : Type} {M : Option (X ⊕ Y)} {kf : X → Prop} {kr : Y → Prop} {live : List (Nat × Bool)} {a b : IC} {Q : Exit → St → Prop} {σ : St} (enc : X → St)
    (ha : ∀ J : St → Prop, ok M (caseS (fun x => J (enc x)) kr) → cwp P a (joinK live J Q) σ) (hb : ∀ x, kf x → cwp P b Q (enc x)) : okj M (caseS kf kr) → cwp P (.join live a b) Q σ := fun ⟨x, h, k⟩ => by
  refine ⟨fun τ => ∃ x, τ = enc x ∧ kf x, ha _ ⟨x, h, ?_⟩, fun _ ⟨x, e, k⟩ => e ▸ hb x k⟩
  cases x with
  | inl x => exact ⟨x, rfl, k⟩
  | inr y => exact k

def appO {α : Type} : Option (List α) → Option (List α) → Option (List α)
  | some a, some b => some (a ++ b)
  | _, _ => none
@[go_sem] theorem appO_some {α : Type} (a b : List α) : appO (some a) (some b) = some (a ++ b) := rfl
@[go_sem] theorem byteOf_u8 (c : UInt8) : byteOf (.int .u8 c.toNat) = some c := by
  unfold byteOf
  have := c.toNat_lt
  simp only [Int.natCast_nonneg, true_and, Int.toNat_natCast]
  rw [if_pos (by omega)]
  simp
@[go_sem] theorem bytesOf_nil : bytesOf [] = some [] := rfl
@[go_sem] theorem bytesOf_cons (a : AV) (l : List AV) : bytesOf (a :: l) = consO (byteOf a) (bytesOf l) := rfl
@[go_sem] theorem bytesOf_append (a : List AV) : ∀ b, bytesOf (a ++ b) = appO (bytesOf a) (bytesOf b) := by
  induction a with
  | nil => intro b; cases h : bytesOf b <;> simp [bytesOf, appO, h]
  | cons x a ih =>
    intro b
    rw [List.cons_append, bytesOf_cons, bytesOf_cons, ih b]
    cases byteOf x <;> cases bytesOf a <;> cases bytesOf b <;> rfl
@[go_sem] theorem bytesOf_flat : ∀ l : List UInt8, bytesOf (flat l) = some l
  | [] => rfl
  | c :: l => by
    rw [flat_cons]
    show consO (byteOf (.int .u8 c.toNat)) (bytesOf (flat l)) = _
    rw [byteOf_u8, bytesOf_flat l]; rfl
@[go_sem] theorem map_flat (l : List UInt8) : (l.map fun c => AV.int .u8 c.toNat) = flat l := by
  induction l with
  | nil => rfl
  | cons a l ih => rw [List.map_cons, ih]; rfl

def w64 (n : Int) : Int := IntKind.i64.wrap n
def u8w (n : Int) : UInt8 := UInt8.ofNat (IntKind.u8.wrap n).toNat
def u32w (n : Int) : UInt32 := UInt32.ofNat (IntKind.u32.wrap n).toNat
def u64w (n : Int) : UInt64 := UInt64.ofNat (IntKind.u64.wrap n).toNat
@[go_sem] theorem wrap_w64 (n : Int) : wrapI .i64 n = w64 n := rfl
theorem wrapU (k : IntKind) (n : Int) (hk : k.signed = false) : k.wrap n = n % (2 ^ k.bits : Int) := by
  unfold IntKind.wrap
  simp [hk]
@[go_sem] theorem wrap_u8 (n : Int) : wrapI .u8 n = (u8w n).toNat := by
  show IntKind.u8.wrap n = ((UInt8.ofNat (IntKind.u8.wrap n).toNat).toNat : Int)
  rw [wrapU _ _ rfl, UInt8.toNat_ofNat']
  have : (2 ^ IntKind.u8.bits : Int) = 256 := by decide
  rw [this]
  omega
@[go_sem] theorem wrap_u32 (n : Int) : wrapI .u32 n = (u32w n).toNat := by
  show IntKind.u32.wrap n = ((UInt32.ofNat (IntKind.u32.wrap n).toNat).toNat : Int)
  rw [wrapU _ _ rfl, UInt32.toNat_ofNat']
  have : (2 ^ IntKind.u32.bits : Int) = 4294967296 := by decide
  rw [this]
  omega
@[go_sem] theorem wrap_u64 (n : Int) : wrapI .u64 n = (u64w n).toNat := by
  show IntKind.u64.wrap n = ((UInt64.ofNat (IntKind.u64.wrap n).toNat).toNat : Int)
  rw [wrapU _ _ rfl, UInt64.toNat_ofNat']
  have : (2 ^ IntKind.u64.bits : Int) = 18446744073709551616 := by decide
  rw [this]
  omega
def shlI (k : IntKind) (a b : Int) : Int := a * 2 ^ (min b.toNat k.bits)
def shrI (k : IntKind) (a b : Int) : Int := a.fdiv (2 ^ (min b.toNat k.bits))
def andI (k : IntKind) (a b : Int) : Int := (BitVec.ofInt k.bits a &&& BitVec.ofInt k.bits b).toNat
def orI (k : IntKind) (a b : Int) : Int := (BitVec.ofInt k.bits a ||| BitVec.ofInt k.bits b).toNat
def xorI (k : IntKind) (a b : Int) : Int := (BitVec.ofInt k.bits a ^^^ BitVec.ofInt k.bits b).toNat
def andNotI (k : IntKind) (a b : Int) : Int := (BitVec.ofInt k.bits a &&& ~~~BitVec.ofInt k.bits b).toNat
theorem shl_eq (k : IntKind) (a b : Int) : a * 2 ^ (min b.toNat k.bits) = shlI k a b := rfl
@[go_sem] theorem binI_shl (k k' : IntKind) (a b : Int) : binI .shl k k' a b = .prt (0 ≤ b) (.int k (wrapI k (shlI k a b))) := rfl
@[go_sem] theorem binI_shr (k k' : IntKind) (a b : Int) : binI .shr k k' a b = .prt (0 ≤ b) (.int k (shrI k a b)) := rfl
@[go_sem] theorem binI_and (k k' : IntKind) (a b : Int) : binI .and k k' a b = kk k k' (.tot (.int k (wrapI k (andI k a b)))) := rfl
@[go_sem] theorem binI_or (k k' : IntKind) (a b : Int) : binI .or k k' a b = kk k k' (.tot (.int k (wrapI k (orI k a b)))) := rfl
@[go_sem] theorem binI_xor (k k' : IntKind) (a b : Int) : binI .xor k k' a b = kk k k' (.tot (.int k (wrapI k (xorI k a b)))) := rfl
@[go_sem] theorem binI_andNot (k k' : IntKind) (a b : Int) : binI .andNot k k' a b = kk k k' (.tot (.int k (wrapI k (andNotI k a b)))) := rfl
@[go_sem] theorem lit_nonneg (n : Nat) : ((0 : Int) ≤ @OfNat.ofNat Int n instOfNat) = True := eq_true (Int.natCast_nonneg n)
@[go_sem] theorem lit_ne (n : Nat) : ((@OfNat.ofNat Int (n + 1) instOfNat) ≠ 0) = True := eq_true (by show ((n + 1 : Nat) : Int) ≠ 0; omega)
@[go_sem] theorem getD_ix (l : List UInt8) (k : Int) : l.getD k.toNat 0 = ix l k := rfl
@[go_sem] theorem part_of (l : List UInt8) (lo hi : Int) : (l.drop lo.toNat).take (hi - lo).toNat = part l lo hi := rfl
attribute [go_sem] List.length_append true_or or_true eq_self_iff_true imp_self Bool.cond_true_left Bool.cond_false_right and_self and_true

/-- Operations, in short. -/
def mv (d x : Nat) : IOper := ⟨some d, .mov false (.t x), none⟩
def mt (d x : Nat) : IOper := ⟨some d, .mov true (.t x), none⟩
def mvg (d x t : Nat) (w : Bool) : IOper := ⟨some d, .mov false (.t x), some (t, w)⟩
def mtg (d x t : Nat) (w : Bool) : IOper := ⟨some d, .mov true (.t x), some (t, w)⟩
def i1 (d : Nat) (o : IOp) : IOper := ⟨some d, o, none⟩
def i1g (d t : Nat) (w : Bool) (o : IOp) : IOper := ⟨some d, o, some (t, w)⟩
def i0 (o : IOp) : IOper := ⟨none, o, none⟩
def i0g (t : Nat) (w : Bool) (o : IOp) : IOper := ⟨none, o, some (t, w)⟩
attribute [go_sem] mv mt mvg mtg i1 i1g i0 i0g
@[go_sem] theorem sub_cons (a : AV) (l : List AV) (off n : Nat) : AB.sub (a :: l) off n = ((a :: l).drop off).take n := rfl
attribute [go_sem] flat_part flat_div
@[go_sem] theorem lpReg_when (σ : St) (b : Bool) (a : AV) (d : Option Nat) : lpReg σ (.when b a) d = lpReg σ a d := by
  rw [lpReg]
end Go.AB
end

section
namespace Go.AB
open Go

def SubS (t s : Store) : Prop := ∀ b o, t b = some o → s b = some o
theorem SubS.refl (s : Store) : SubS s s := fun _ _ h => h
theorem SubS.trans {a b c : Store} (h : SubS a b) (k : SubS b c) : SubS a c := fun x o hx => k x o (h x o hx)
theorem SubS.set {t s : Store} {b : Nat} {o : SO} (h : SubS t s) (hb : t b = none) : SubS t (s.set b o) := fun c p hc => by
  unfold Store.set
  by_cases hcb : c = b
  · subst hcb; rw [hb] at hc; cases hc
  · rw [if_neg hcb]; exact h c p hc
theorem SubS.mono {t s : Store} {b : Nat} {o : SO} (h : SubS t s) : SubS (t.set b o) (s.set b o) := fun c p hc => by
  unfold Store.set at hc ⊢
  by_cases hcb : c = b
  · rw [if_pos hcb] at hc ⊢; exact hc
  · rw [if_neg hcb] at hc ⊢; exact h c p hc

variable {P : Program}
/-- What is no longer wanted is forgotten. -/
theorem FN.forget {f : FuncId} {args : List AV} {s : Store} {Q : List AV → Store → Prop} (h : FN P f args s fun rs t => ∃ t', SubS t' t ∧ Q rs t') : FN P f args s Q := by
  intro G w vs h1 h2 h3 h4
  refine (h G w vs h1 h2 h3 h4).mono fun e w' ⟨v, rs, s', G', a1, ⟨t', ht, hq⟩, a3, a4, a5⟩ => ⟨v, rs, t', G', a1, hq, a3, fun b o hb => a4 b o (ht b o hb), a5⟩

theorem set_same (s : Store) (b : Nat) (o : SO) : (s.set b o) b = some o := by simp [Store.set]
theorem set_ne {s : Store} {b c : Nat} {o : SO} (h : c ≠ b) : (s.set b o) c = s c := by simp [Store.set, h]
theorem set_set (s : Store) (b : Nat) (o p : SO) : (s.set b o).set b p = s.set b p := by
  funext c; unfold Store.set; by_cases h : c = b <;> simp [h]
theorem set_comm {a b : Nat} (h : a ≠ b) {s : Store} {o p : SO} : (s.set b p).set a o = (s.set a o).set b p := by
  funext c; unfold Store.set
  by_cases ha : c = a
  · subst ha; simp [h]
  · simp [ha]
theorem set_eq {s : Store} {b : Nat} {o : SO} (h : s b = some o) : s = s.set b o := by
  funext c; unfold Store.set
  by_cases hc : c = b
  · subst hc; simp [h]
  · simp [hc]
theorem set_eq' {s : Store} {b : Nat} {o : SO} (h : s b = some o) : s.set b o = s := (set_eq h).symm
theorem set_none (s : Store) (b c : Nat) (o : SO) : ((s.set b o) c = none) = (c ≠ b ∧ s c = none) := by
  unfold Store.set
  by_cases hc : c = b <;> simp [hc]
theorem ne_of_none {s : Store} {b c : Nat} {o : SO} (h : s b = some o) (hc : s c = none) : c ≠ b := fun e => by subst e; rw [h] at hc; cases hc
attribute [go_sem] set_same set_set

theorem ok_mono {α : Type} {o : Option α} {K K' : α → Prop} (h : ok o K) (hk : ∀ r, K r → K' r) : ok o K' := h.imp fun r ⟨h1, h2⟩ => ⟨h1, hk r h2⟩

section
variable (Q : Exit → St → Prop) (σ τ : St)
@[go_sem] theorem cwp_scope (b : IC) : cwp P (.scope b) Q σ = cwp P b (scopeK Q) σ := by
  have : (fun x τ => match x with | .goto _ => False | x => Q x τ) = scopeK Q := by
    funext e τ; cases e <;> rfl
  show cwp P b (fun x τ => match x with | .goto _ => False | x => Q x τ) σ = _
  rw [this]
@[go_sem] theorem scopeK_normal : scopeK Q .normal τ = Q .normal τ := rfl
@[go_sem] theorem scopeK_ret : scopeK Q .ret τ = Q .ret τ := rfl
@[go_sem] theorem scopeK_exit (i : Nat) : scopeK Q (.exit i) τ = Q (.exit i) τ := rfl
end

/-- An array's cell at a known place. -/
def aindexN (sz len n : Nat) (x : IX) : AV → PR
  | .lp d o => .prt (n + 1 ≤ len) (.lp d (o + n * sz))
  | .sp cs => bif decide (len * sz ≤ cs.length) then .prt (n + 1 ≤ len) (.sp (cs.drop (n * sz))) else .no
  | .ref b o => .prt (n + 1 ≤ len) (.ref b (o + n * sz))
  | .loc _ => locA (n + 1 ≤ len) (n * sz) x
  | _ => .no
theorem aindex_nat (sz len n : Nat) (x : IX) (k : IntKind) (av : AV) : aindexAddrV sz len x av (.int k (n : Int)) = aindexN sz len n x av := by
  have h : (0 ≤ (n : Int) ∧ (n : Int) < (len : Int)) = (n + 1 ≤ len) := by
    apply propext; constructor <;> intro h <;> omega
  cases av <;> first | rfl | simp only [aindexAddrV, aindexN, h, Int.toNat_natCast]
@[go_sem] theorem aindex_lit (sz len n : Nat) (x : IX) (k : IntKind) (av : AV) : aindexAddrV sz len x av (.int k (no_index (OfNat.ofNat n))) = aindexN sz len n x av := aindex_nat sz len n x k av
attribute [go_sem] aindexN.eq_1 aindexN.eq_2 aindexN.eq_3 aindexN.eq_4

/-- A row that is written in place: how long it says it is, and what it holds. -/
structure MSl (α : Type) where
  n : Nat
  l : List α

def updL {α : Type} (l : List α) (i : Int) (x : α) : List α := l.take i.toNat ++ [x] ++ l.drop (i.toNat + 1)
theorem flat_upd {α : Type} [Enc α] (l : List α) (i : Int) (x : α) (n : Nat) (hn : n = Enc.w α) : setAt (flat l) (i.toNat * n) (Enc.cells x) = flat (updL l i x) := by
  subst hn
  unfold setAt updL
  rw [flat_append, flat_append, flat_cons, flat_nil, List.append_nil, flat_take, Enc.len]
  congr 1
  rw [show i.toNat * Enc.w α + Enc.w α = (i.toNat + 1) * Enc.w α from by rw [Nat.add_mul, Nat.one_mul], flat_drop]
@[go_sem] theorem upd_int (l : List Int) (i x : Int) : setAt (flat l) (i.toNat * 1) [.int .i64 x] = flat (updL l i x) := flat_upd l i x 1 rfl
@[go_sem] theorem upd_u8 (l : List UInt8) (i : Int) (x : UInt8) : setAt (flat l) (i.toNat * 1) [.int .u8 x.toNat] = flat (updL l i x) := flat_upd l i x 1 rfl
@[go_sem] theorem upd_u32 (l : List UInt32) (i : Int) (x : UInt32) : setAt (flat l) (i.toNat * 1) [.int .u32 x.toNat] = flat (updL l i x) := flat_upd l i x 1 rfl
@[go_sem] theorem upd_bool (l : List Bool) (i : Int) (x : Bool) : setAt (flat l) (i.toNat * 1) [.bool x] = flat (updL l i x) := flat_upd l i x 1 rfl
@[go_sem] theorem setAt_cons (a : AV) (l : List AV) (off : Nat) (news : List AV) : setAt (a :: l) off news = (a :: l).take off ++ news ++ (a :: l).drop (off + news.length) := rfl
@[go_sem] theorem pad_cons (z : List AV) (a : AV) (l : List AV) : pad z (a :: l) = bif (a :: l).length == z.length then a :: l else z := rfl
@[go_sem] theorem rep_flat {α : Type} [Enc α] (n : Nat) (z : α) : (List.replicate n (Enc.cells z)).flatten = flat (List.replicate n z) := by simp [flat]

section
variable {d d' : Option Nat} {K : St → Prop} {σ : St} {b off : Nat} {news old : List AV}
@[go_sem] theorem stK_wrS : stK d K (wrS σ b (wrCells off news old)) = (off + news.length ≤ old.length ∧ K (({ σ with s := σ.s.set b (.cells (setAt old off news)) } : St).put d (.tup []))) := by
  unfold wrCells
  by_cases h : off + news.length ≤ old.length
  · simp [h, wrS, stK]
  · simp [h, wrS, stK]
@[go_sem] theorem stK_wrL {i : Nat} : stK d K (wrL σ i (wrCells off news old)) = (off + news.length ≤ old.length ∧ K ((σ.put (some i) (.loc (setAt old off news))).put d (.tup []))) := by
  unfold wrCells
  by_cases h : off + news.length ≤ old.length
  · simp [h, wrL, stK]
  · simp [h, wrL, stK]
end

theorem u8_inj (a b : UInt8) : ((a.toNat : Int) = (b.toNat : Int)) = (a = b) := by
  rw [Int.natCast_inj, UInt8.toNat_inj]
@[go_sem] theorem natCast_lit (n : Nat) : (((no_index (OfNat.ofNat n)) : Nat) : Int) = OfNat.ofNat n := rfl
@[go_sem] theorem u8_zero : ((UInt8.toNat 0 : Nat) : Int) = 0 := rfl
@[go_sem] theorem u8_one : ((UInt8.toNat 1 : Nat) : Int) = 1 := rfl
/-- A map as a list. -/
def mfind {κ ν : Type} [BEq κ] (m : List (κ × ν)) (k : κ) : Option ν := match m with
  | [] => none
  | x :: r => bif k == x.1 then some x.2 else mfind r k
def mget {κ ν : Type} [BEq κ] (z : ν) (m : List (κ × ν)) (k : κ) : ν := (mfind m k).getD z
def mhas {κ ν : Type} [BEq κ] (m : List (κ × ν)) (k : κ) : Bool := (mfind m k).isSome
def mput {κ ν : Type} [BEq κ] (m : List (κ × ν)) (k : κ) (v : ν) : List (κ × ν) := match m with
  | [] => [(k, v)]
  | x :: r => bif k == x.1 then (k, v) :: r else x :: mput r k v
def encM {κ ν : Type} (ek : κ → AV) (ev : ν → AV) (m : List (κ × ν)) : List (AV × AV) := m.map fun p => (ek p.1, ev p.2)
theorem keysOK_enc {κ ν : Type} {ek : κ → AV} {ev : ν → AV} {kk : KeyK} (h : ∀ a, keyOK kk (ek a) = true) (m : List (κ × ν)) : keysOK kk (encM ek ev m) = true := by
  unfold keysOK encM
  simp [h]
section
variable {κ ν : Type} [BEq κ] {ek : κ → AV} {ev : ν → AV}
theorem findK_enc (hk : ∀ a b, keyIs (ek a) (ek b) = (a == b)) (m : List (κ × ν)) (k : κ) : findK (ek k) (encM ek ev m) = (mfind m k).map ev := by
  induction m with
  | nil => rfl
  | cons x m ih =>
    show (bif keyIs (ek k) (ek x.1) then some (ev x.2) else findK (ek k) (encM ek ev m)) = _
    rw [hk, ih]
    show _ = (bif k == x.1 then some x.2 else mfind m k).map ev
    cases k == x.1 <;> rfl
theorem putK_enc (hk : ∀ a b, keyIs (ek a) (ek b) = (a == b)) (m : List (κ × ν)) (k : κ) (v : ν) : putK (ek k) (ev v) (encM ek ev m) = encM ek ev (mput m k v) := by
  induction m with
  | nil => rfl
  | cons x m ih =>
    show (bif keyIs (ek k) (ek x.1) then (ek k, ev v) :: encM ek ev m else (ek x.1, ev x.2) :: putK (ek k) (ev v) (encM ek ev m)) = _
    rw [hk, ih]
    show _ = encM ek ev (bif k == x.1 then (k, v) :: m else x :: mput m k v)
    cases k == x.1 <;> rfl
theorem lookupO_enc {kk : KeyK} {z : ν} {za : AV} (h : ∀ a, keyOK kk (ek a) = true) (hk : ∀ a b, keyIs (ek a) (ek b) = (a == b)) (hz : view za = ev z) (hv : ∀ a, view (ev a) = ev a) (hi : ∀ a, isV (ev a) = true) (ok : Bool) (m : List (κ × ν)) (k : κ) :
    lookupO kk za ok (ek k) (some (.map (encM ek ev m))) = .prt True (okV ok (ev (mget z m k)) (mhas m k)) := by
  show ckL ok (keyOK kk (ek k) = true ∧ keysOK kk (encM ek ev m) = true) (lookV za ok (findK (ek k) (encM ek ev m))) = _
  rw [findK_enc hk, h, keysOK_enc h]
  unfold mget mhas
  cases mfind m k with
  | none =>
    show ckL ok _ (okV ok (view za) false) = _
    rw [hz]
    cases ok <;> simp [ckL, plainL, okV, hi]
  | some v =>
    show ckL ok _ (okV ok (view (ev v)) true) = _
    rw [hv]
    cases ok <;> simp [ckL, plainL, okV, hi]
theorem updO_enc {kk : KeyK} {b : Nat} {σ : St} {d : Option Nat} {K : St → Prop} (h : ∀ a, keyOK kk (ek a) = true) (hk : ∀ a b, keyIs (ek a) (ek b) = (a == b)) (hkv : ∀ a, view (ek a) = ek a) (m : List (κ × ν)) (k : κ) (v : ν) (hv : view (ev v) = ev v) (hi : isV (ev v) = true) :
    updO kk b σ (ek k) (ev v) d K (some (.map (encM ek ev m))) = K ({ σ with s := σ.s.set b (.map (encM ek ev (mput m k v))) }.put d (.tup [])) := by
  show ((isV (ev v) = true ∧ keyOK kk (ek k) = true ∧ keysOK kk (encM ek ev m) = true) ∧ K ({ σ with s := σ.s.set b (.map (putK (view (ek k)) (view (ev v)) (encM ek ev m))) }.put d (.tup []))) = _
  rw [hkv, hv, putK_enc hk, h, keysOK_enc h, hi]
  simp
end
theorem keyIs_int (a b : Int) : keyIs (.int .i64 a) (.int .i64 b) = (a == b) := by simp [keyIs, cellsOf, keyEqs, keyEq]
theorem keyIs_str (a b : Str) : keyIs (.str a.b) (.str b.b) = (a == b) := by
  rw [Bool.eq_iff_iff]
  simp only [keyIs, cellsOf, keyEqs, keyEq, Bool.and_true, beq_iff_eq]
  cases a; cases b; simp

attribute [go_sem] mapUpdW.eq_1
@[go_sem] theorem encM_len {κ ν : Type} (ek : κ → AV) (ev : ν → AV) (m : List (κ × ν)) : (encM ek ev m).length = m.length := by simp [encM]
theorem encM_nil {κ ν : Type} (ek : κ → AV) (ev : ν → AV) : encM ek ev [] = [] := rfl
@[go_sem] theorem rep_int (n : Nat) : (List.replicate n [AV.int .i64 0]).flatten = flat (List.replicate n (0 : Int)) := rep_flat n (0 : Int)
@[go_sem] theorem rep_u8 (n : Nat) : (List.replicate n [AV.int .u8 0]).flatten = flat (List.replicate n (0 : UInt8)) := rep_flat n (0 : UInt8)
@[go_sem] theorem rep_u32 (n : Nat) : (List.replicate n [AV.int .u32 0]).flatten = flat (List.replicate n (0 : UInt32)) := rep_flat n (0 : UInt32)
@[go_sem] theorem rep_bool (n : Nat) : (List.replicate n [AV.bool false]).flatten = flat (List.replicate n false) := rep_flat n false
end Go.AB
end

section
namespace Go.AB
open Go

/-- Blocks of the store may become a value's. -/
def GhStep (G G2 : Gh) : Prop := ∀ b, G.R b ≤ G2.R b ∧ (G.O b ≠ .sh → G2.O b = G.O b ∧ G2.R b = G.R b)

theorem FN.conv {P : Program} {f : FuncId} {args : List AV} {s : Store} {Q Q' : List AV → Store → Prop} (h : FN P f args s Q)
    (k : ∀ rs s', Q rs s' → ∀ G w v, GoodW G w → StoreR G w s' → ResR G w rs v → ∃ rs2 s2 G2, Q' rs2 s2 ∧ GhStep G G2 ∧ GoodW G2 w ∧ StoreR G2 w s2 ∧ ResR G2 w rs2 v) : FN P f args s Q' := by
  intro G w vs h1 h2 h3 h4
  refine (h G w vs h1 h2 h3 h4).mono fun e w' ⟨v, rs, s', G', a, hq, hg, hs, hr, hp⟩ => ?_
  obtain ⟨rs2, s2, G2, k1, k2, k3, k4, k5⟩ := k rs s' hq G' w' v hg hs hr
  refine ⟨v, rs2, s2, G2, a, k1, k3, k4, k5, hp.os, hp.tape, hp.output, hp.drawn, hp.size, fun b hb => Nat.le_trans (hp.mono b hb) (k2 b).1, hp.stable, hp.frame, fun b hb ho => ?_, fun b hb ho => ?_⟩
  · obtain ⟨q1, q2⟩ := hp.frameO b hb ho
    obtain ⟨q3, q4⟩ := (k2 b).2 (by rw [q1]; simp)
    exact ⟨q3.trans q1, q4.trans q2⟩
  · obtain ⟨q1, q2⟩ := hp.noneO b hb ho
    obtain ⟨q3, q4⟩ := (k2 b).2 (by rw [q1]; simp)
    exact ⟨q3.trans q1, q4.trans q2⟩

section
variable {G : Gh} {w : World} {s : Store} {b : Nat}

theorem step_at (h : StoreR G w s) (hg : GoodW G w) {cs : List AV} (hs : s b = some (.cells cs)) (r : Nat) :
    GhStep G (G.upd b (.res 0) r) ∧ GoodW (G.upd b (.res 0) r) w ∧ StoreR (G.upd b (.res 0) r) w (s.del b) ∧ (∀ a v, VR w G.R a v → VR w (G.upd b (.res 0) r).R a v) := by
  obtain ⟨q2, q3, c, t, q4, q5, q6⟩ := h b _ hs
  have hR : ∀ b', G.R b' ≤ (G.upd b (.res 0) r).R b' := fun b' => by
    by_cases hb : b' = b
    · subst hb; rw [q3]; exact Nat.zero_le _
    · simp [hb]
  have hv : ∀ a v, VR w G.R a v → VR w (G.upd b (.res 0) r).R a v := fun a v h => h.mono hR fun _ _ _ => rfl
  have same : ∀ b', b' ≠ b → (G.upd b (.res 0) r).O b' = G.O b' ∧ (G.upd b (.res 0) r).R b' = G.R b' := fun b' hb' => ⟨by simp [hb'], by simp [hb']⟩
  have hlt : b < w.heap.size := hg.lt (by rw [q2]; simp)
  refine ⟨fun b' => ⟨hR b', fun hb' => same b' fun e => by subst e; exact hb' q2⟩, ⟨fun b' hb' => ?_, fun b' hb' => ?_⟩, ?_, hv⟩
  · have : b' ≠ b := by omega
    rw [(same b' this).1, hg.newO b' hb']
  · have : b' ≠ b := by omega
    rw [(same b' this).2, hg.newR b' hb']
  · intro b' o hb'
    unfold Store.del at hb'
    split at hb'
    · cases hb'
    · rename_i hne
      obtain ⟨r1, r2, r3⟩ := h b' o hb'
      refine ⟨(same b' hne).1.trans r1, (same b' hne).2.trans r2, ?_⟩
      cases o with
      | cells cs' =>
        obtain ⟨c', t', r4, r5, r6⟩ := r3
        exact ⟨c', t', r4, r5.mono hv (fun b'' j hb'' => by
          have : b'' ≠ b := fun e => by subst e; rw [q2] at hb''; cases hb''
          exact ⟨(same b'' this).1.trans hb'', (same b'' this).2, rfl⟩), r6⟩
      | map es =>
        obtain ⟨ents, clock, r4, r5, r6⟩ := r3
        exact ⟨ents, clock, r4, r5, fun j x y hx hy => ⟨hv _ _ (r6 j x y hx hy).1, hv _ _ (r6 j x y hx hy).2⟩⟩

/-- A row of the store becomes one that nobody else knows. -/
theorem pack_us (h : StoreR G w s) (hg : GoodW G w) {n cap sz : Nat} {cs sp : List AV} {v : Value} (hs : s b = some (.cells (cs ++ sp))) (hc : 0 < cap) (hn : n ≤ cap) (hl : (cs ++ sp).length = cap * sz) (hl2 : cs.length = n * sz) (hvw : views (cs ++ sp) = cs ++ sp)
    (hr : ResR G w [.arr b 0 n cap] v) : ∃ G2, GhStep G G2 ∧ GoodW G2 w ∧ StoreR G2 w (s.del b) ∧ ResR G2 w [.us sz n cs] v := by
  obtain ⟨k1, k2, k3, k4⟩ := step_at h hg hs 0
  obtain ⟨q2, q3, c, t, q4, q5, q6⟩ := h b _ hs
  refine ⟨_, k1, k2, k3, .inr ⟨b, cap, c, t, sp, hc, hn, VR.inv_arr hr.1 hc, by simp, by simp, q4, by rw [q5.1, hl], hl2, hl, fun j x u hx hu => k4 _ _ (q5.2 j x u hx hu).1, q6, hvw⟩⟩
theorem pack_us0 {sz : Nat} {v : Value} (hr : ResR G w [.arr b 0 0 0] v) : ResR G w [.us sz 0 []] v := by
  rcases VR.inv_arr' hr.1 with e | ⟨_, _, e⟩
  · exact .inl ⟨rfl, rfl, .inr ⟨b, 0, e⟩⟩
  · exact .inl ⟨rfl, rfl, .inl e⟩

/-- A row of the store becomes a value that can be appended to. -/
theorem pack_sl (h : StoreR G w s) (hg : GoodW G w) {n cap sz : Nat} {cs sp : List AV} {v : Value} (hs : s b = some (.cells (cs ++ sp))) (hc : 0 < cap) (hn : n ≤ cap) (hl : (cs ++ sp).length = cap * sz) (hl2 : cs.length = n * sz) (hvw : views cs = cs)
    (hr : ResR G w [.arr b 0 n cap] v) : ∃ G2, GhStep G G2 ∧ GoodW G2 w ∧ StoreR G2 w (s.del b) ∧ ResR G2 w [.sl true sz n cs] v := by
  obtain ⟨k1, k2, k3, k4⟩ := step_at h hg hs (n * sz)
  obtain ⟨q2, q3, c, t, q4, q5, q6⟩ := h b _ hs
  have e := VR.inv_arr hr.1 hc
  refine ⟨_, k1, k2, k3, ?_, ?_⟩
  · rw [e]
    refine .sl true sz n cs b 0 cap (fun j => c.getD j undef) (fun x hx => q6 x (List.mem_append_left _ hx)) hl2 (by simp [hl2]) hn (fun j x hj => ?_) (fun j x hj => ?_)
    all_goals
      have hj' : (cs ++ sp)[j]? = some x := by rw [List.getElem?_append_left (List.getElem?_eq_some_iff.1 hj).1]; exact hj
      have hlt : j < c.size := by rw [q5.1]; exact (List.getElem?_eq_some_iff.1 hj').1
      have hget : c[j]? = some (c.getD j undef) := by simp [Array.getD_eq_getD_getElem?, hlt]
    · rw [Nat.zero_add, cell_of_row w q4, hget]
    · exact k4 _ _ (q5.2 j x _ hj' hget).1
  · intro base m' cap' hv _
    rw [e] at hv
    injection hv with e1 e2 e3
    subst e3
    exact ⟨b, 0, c, t, (0, 0), e1.symm, by simp, by simp, q4, by rw [q5.1, hl, Nat.zero_add], fun j _ hj => by simp at hj, Nat.le_refl _, rfl, .inl rfl, fun j y _ hy => by
      have hlt : j < (cs ++ sp).length := by rw [← q5.1]; exact (Array.getElem?_eq_some_iff.1 hy).1
      exact oneCell_of_flat (q6 _ (List.getElem_mem hlt)) (q5.2 j _ y (List.getElem?_eq_getElem hlt) hy).1⟩
theorem pack_sl0 {sz : Nat} {v : Value} (hr : ResR G w [.arr b 0 0 0] v) : ResR G w [.sl true sz 0 []] v := by
  rcases VR.inv_arr' hr.1 with e | ⟨_, _, e⟩
  · refine ⟨?_, ?_⟩
    · rw [e]; exact .sl true sz 0 [] b 0 0 (fun _ => undef) Fl.nil (by simp) (by simp) (Nat.le_refl _) (fun j c hj => by simp at hj) (fun j c hj => by simp at hj)
    · intro base m' cap' hv hc; rw [e] at hv; injection hv with _ e2 e3; omega
  · refine ⟨by rw [e]; exact .slnil _ _, ?_⟩
    intro base m' cap' hv hc; rw [e] at hv; injection hv with _ e2 e3; omega
end

theorem del_set {s : Store} {b : Nat} {o : SO} (h : s b = none) : (s.set b o).del b = s := by
  funext i
  unfold Store.set Store.del
  by_cases e : i = b
  · subst e; simp [h]
  · simp [e]
@[go_sem] theorem set_at {s : Store} {b : Nat} {o : SO} : (s.set b o) b = some o := by unfold Store.set; simp

/-- What one store says, the other says too. -/
def Sub (s2 s : Store) : Prop := ∀ b o, s2 b = some o → s b = some o
theorem Sub.refl (s : Store) : Sub s s := fun _ _ h => h
theorem Sub.set {s s2 : Store} (h : Sub s2 s) {b : Nat} {o : SO} (hb : s b = none) : Sub s2 (s.set b o) := fun b' o' h' => by
  have := h b' o' h'
  unfold Store.set
  split
  · rename_i e; subst e; rw [hb] at this; cases this
  · exact this
theorem Sub.set2 {s s2 : Store} (h : Sub s2 s) {b : Nat} {o : SO} : Sub (s2.set b o) (s.set b o) := fun b' o' h' => by
  unfold Store.set at h' ⊢
  split
  · rename_i e; rw [if_pos e] at h'; exact h'
  · rename_i e; rw [if_neg e] at h'; exact h b' o' h'
theorem Sub.del {s s2 : Store} (h : Sub s2 s) {b : Nat} (hb : s2 b = none) : Sub s2 (s.del b) := fun b' o' h' => by
  unfold Store.del
  split
  · rename_i e; subst e; rw [hb] at h'; cases h'
  · exact h b' o' h'
theorem Sub.none {s s2 : Store} (h : Sub s2 s) {b : Nat} (hb : s b = none) : s2 b = none := by
  cases h2 : s2 b with
  | none => rfl
  | some o => have := h b o h2; rw [hb] at this; cases this
theorem StoreR.sub {G : Gh} {w : World} {s s2 : Store} (h : StoreR G w s) (hs : Sub s2 s) : StoreR G w s2 := fun b o hb => h b o (hs b o hb)
theorem GhStep.refl (G : Gh) : GhStep G G := fun _ => ⟨Nat.le_refl _, fun _ => ⟨rfl, rfl⟩⟩

/-- Blocks of the store may be forgotten. -/
theorem FN.weak {P : Program} {f : FuncId} {args : List AV} {s : Store} {Q : List AV → Store → Prop} (h : FN P f args s fun rs s' => ∃ s2, Sub s2 s' ∧ Q rs s2) : FN P f args s Q :=
  h.conv fun rs _ ⟨s2, h1, h2⟩ G _ _ hg hs hr => ⟨rs, s2, G, h2, GhStep.refl G, hg, hs.sub h1, hr⟩

/-- A row result, as a slice. -/
theorem FN.row_sl {P : Program} {f : FuncId} {args : List AV} {s s2 : Store} {Q : List AV → Store → Prop} {sz : Nat} {cs : List AV} {n : Nat} (hl2 : cs.length = n * sz) (hvw : views cs = cs) (hq : Q [.sl true sz n cs] s2)
    (h : FN P f args s fun rs s' => (∃ b cap sp, rs = [.arr b 0 n cap] ∧ s' b = some (.cells (cs ++ sp)) ∧ 0 < cap ∧ n ≤ cap ∧ (cs ++ sp).length = cap * sz ∧ Sub s2 (s'.del b)) ∨ (n = 0 ∧ cs = [] ∧ Sub s2 s' ∧ ∃ b, rs = [.arr b 0 0 0])) : FN P f args s Q := by
  refine h.conv fun rs s' hq' G w v hg hs hr => ?_
  rcases hq' with ⟨b, cap, sp, rfl, hb, hc, hn, hl, hsub⟩ | ⟨rfl, rfl, hsub, b, rfl⟩
  · obtain ⟨G2, k1, k2, k3, k4⟩ := pack_sl hs hg hb hc hn hl hl2 hvw hr
    exact ⟨_, _, G2, hq, k1, k2, k3.sub hsub, k4⟩
  · exact ⟨_, _, G, hq, GhStep.refl G, hg, hs.sub hsub, pack_sl0 hr⟩
/-- A row result, as one that nobody else knows. -/
theorem FN.row_us {P : Program} {f : FuncId} {args : List AV} {s s2 : Store} {Q : List AV → Store → Prop} {sz : Nat} {cs : List AV} {n : Nat} (hl2 : cs.length = n * sz) (hq : Q [.us sz n cs] s2)
    (h : FN P f args s fun rs s' => (∃ b cap sp, rs = [.arr b 0 n cap] ∧ s' b = some (.cells (cs ++ sp)) ∧ 0 < cap ∧ n ≤ cap ∧ (cs ++ sp).length = cap * sz ∧ views (cs ++ sp) = cs ++ sp ∧ Sub s2 (s'.del b)) ∨ (n = 0 ∧ cs = [] ∧ Sub s2 s' ∧ ∃ b, rs = [.arr b 0 0 0])) : FN P f args s Q := by
  refine h.conv fun rs s' hq' G w v hg hs hr => ?_
  rcases hq' with ⟨b, cap, sp, rfl, hb, hc, hn, hl, hvw, hsub⟩ | ⟨rfl, rfl, hsub, b, rfl⟩
  · obtain ⟨G2, k1, k2, k3, k4⟩ := pack_us hs hg hb hc hn hl hl2 hvw hr
    exact ⟨_, _, G2, hq, k1, k2, k3.sub hsub, k4⟩
  · exact ⟨_, _, G, hq, GhStep.refl G, hg, hs.sub hsub, pack_us0 hr⟩

/-- Results that lead nowhere. -/
def plainR : AV → Bool
  | .int _ _ => true
  | .bool _ => true
  | .str _ => true
  | _ => false
theorem plainR_vr {w w' : World} {R R' : Nat → Nat} {a : AV} {v : Value} (h : plainR a = true) (hv : VR w R a v) : VR w' R' a v := by
  cases a <;> first | (cases h; done) | skip
  · rw [VR.inv_bool hv]; exact .bool _
  · rw [VR.inv_int hv]; exact .int _ _
  · rw [VR.inv_str hv]; exact .str _
/-- A function that is handed a row of the store as a value, for the time of its call, and hands back what leads nowhere. -/
theorem FN.borrow {P : Program} {f : FuncId} {args args' : List AV} {s : Store} {Q : List AV → Store → Prop} (b k : Nat)
    (h : FN P f args' noStore fun rs _ => rs.all plainR = true ∧ Q rs s)
    (ha : ∀ (G : Gh) (w : World) (vs : Array Value), StoreR G w s → ArgsR w G.R args vs → ArgsR w (fun i => if i = b ∧ b < w.heap.size then k else G.R i) args' vs) : FN P f args s Q := by
  intro G w vs h1 h2 h3 h4
  let G1 : Gh := ⟨fun i => if i = b ∧ b < w.heap.size then k else G.R i, fun i => if G.O i = .none then .none else .frame⟩
  have hO1 : ∀ i, G1.O i = .frame ∨ G1.O i = .none := fun i => by
    show (if G.O i = .none then Owner.none else Owner.frame) = _ ∨ _
    by_cases e : G.O i = .none <;> simp [e, G1]
  have hg1 : GoodW G1 w := ⟨fun i hi => by simp [G1, h1.newO i hi], fun i hi => by
    have : ¬ (i = b ∧ b < w.heap.size) := by omega
    show (if i = b ∧ b < w.heap.size then k else G.R i) = 0
    rw [if_neg this, h1.newR i hi]⟩
  refine (h G1 w vs hg1 (fun i => (hO1 i).elim (fun e => .inr (.inl e)) .inl) (fun i o hi => by cases hi) (ha G w vs h3 h4)).mono fun e w' ⟨v, rs, s', G', he, ⟨hpl, hq⟩, _, _, hr, hp⟩ => ?_
  have same : ∀ i, i < w.heap.size → w'.heap[i]? = w.heap[i]? := fun i hi => hp.frame i hi (hO1 i)
  have hcell : ∀ i j, i < w.heap.size → w'.cell? ⟨i, j, none⟩ = w.cell? ⟨i, j, none⟩ := fun i j hi => World.cell?_of_block (same i hi)
  have hlt : ∀ i, G.O i ≠ .none → i < w.heap.size := fun i hi => h1.lt hi
  have hR0 : ∀ i j, j < G.R i → i < w.heap.size := fun i j hj => by
    rcases Nat.lt_or_ge i w.heap.size with h | h
    · exact h
    · rw [h1.newR i h] at hj; omega
  have hpres : Pres G w G w' := ⟨hp.os, hp.tape, hp.output, hp.drawn, hp.size, fun _ _ => Nat.le_refl _, fun i j hi _ => hcell i j hi, fun i hi _ => same i hi, fun i _ ho => ⟨ho, rfl⟩, fun i _ ho => ⟨ho, rfl⟩⟩
  have hg' : GoodW G w' := ⟨fun i hi => h1.newO i (Nat.le_trans hp.size hi), fun i hi => h1.newR i (Nat.le_trans hp.size hi)⟩
  refine ⟨v, rs, s, G, he, hq, hg', h3.mono h1 hpres (fun i hi => ⟨hi, rfl, same i (hlt i (by rw [hi]; simp))⟩) (fun i c j _ hc => ⟨hc, rfl, same c (hlt c (by rw [hc]; simp))⟩), ?_, hpres⟩
  match rs, hpl, hr with
  | [], _, hr =>
    obtain ⟨ys, q1, q2, q3⟩ := hr
    exact ⟨ys, q1, q2, fun j x y hx hy => by simp at hx⟩
  | [a], hpl, hr =>
    have hpa : plainR a = true := by simpa using hpl
    have hr' : VR w' G'.R a v ∧ OwnR G' w' (.res 0) a v := by
      cases a <;> first | exact hr | (cases hpa; done)
    show res1R G w' a v
    have hv := plainR_vr (w' := w') (R' := G.R) hpa hr'.1
    cases a <;> first | exact ⟨hv, trivial⟩ | (cases hpa; done)
  | a1 :: a2 :: rr, hpl, hr =>
    obtain ⟨ys, q1, q2, q3⟩ := hr
    refine ⟨ys, q1, q2, fun j x y hx hy => ?_⟩
    have hpa : plainR x = true := List.all_eq_true.1 hpl x (List.mem_of_getElem? hx)
    refine ⟨plainR_vr hpa (q3 j x y hx hy).1, ?_⟩
    cases x <;> first | trivial | (cases hpa; done)

/-- A row of the store, seen as a value. -/
theorem arr_view {G : Gh} {w : World} {s : Store} {b n cap sz : Nat} {cs : List AV} {v : Value} (h : StoreR G w s) (hlen : cs.length = n * sz) (hn : n ≤ cap) (hvw : views cs = cs) (hs : cs ≠ [] → ∃ sp, s b = some (.cells (cs ++ sp))) (hv : VR w G.R (.arr b 0 n cap) v) (hsz : 0 < sz) :
    VR w (fun i => if i = b ∧ b < w.heap.size then n * sz else G.R i) (.sl false sz n cs) v := by
  by_cases hcs : cs = []
  · subst hcs
    have hn0 : n = 0 := by
      rcases Nat.mul_eq_zero.1 hlen.symm with h | h
      · exact h
      · omega
    subst hn0
    rcases VR.inv_arr' hv with e | ⟨_, _, e⟩
    · rw [e]; exact .sl false sz 0 [] b 0 cap (fun _ => undef) Fl.nil (by simp) (Nat.zero_le _) (Nat.zero_le _) (fun j c hj => by simp at hj) (fun j c hj => by simp at hj)
    · rw [e]; exact .slnil _ _
  · obtain ⟨sp, hs⟩ := hs hcs
    obtain ⟨q2, q3, c, t, q4, q5, q6⟩ := h b _ hs
    have hb : b < w.heap.size := by
      rcases Nat.lt_or_ge b w.heap.size with h | h
      · exact h
      · rw [Array.getElem?_eq_none h] at q4; cases q4
    have hn0 : 0 < n := by
      rcases Nat.eq_zero_or_pos n with h | h
      · subst h; rw [Nat.zero_mul] at hlen; exact absurd (List.eq_nil_of_length_eq_zero hlen) hcs
      · exact h
    have e := VR.inv_arr hv (by omega)
    rw [e]
    have hmono : ∀ a u, VR w G.R a u → VR w (fun i => if i = b ∧ b < w.heap.size then n * sz else G.R i) a u := fun a u h => h.mono (fun i => by
      show G.R i ≤ if i = b ∧ b < w.heap.size then n * sz else G.R i
      split
      · rename_i e; rw [e.1, q3]; exact Nat.zero_le _
      · exact Nat.le_refl _) fun _ _ _ => rfl
    refine .sl false sz n cs b 0 cap (fun j => c.getD j undef) (fun x hx => q6 x (List.mem_append_left _ hx)) hlen (by simp [hb, hlen]) hn (fun j x hj => ?_) (fun j x hj => ?_)
    all_goals
      have hj' : (cs ++ sp)[j]? = some x := by rw [List.getElem?_append_left (List.getElem?_eq_some_iff.1 hj).1]; exact hj
      have hlt : j < c.size := by rw [q5.1]; exact (List.getElem?_eq_some_iff.1 hj').1
      have hget : c[j]? = some (c.getD j undef) := by simp [Array.getD_eq_getD_getElem?, hlt]
    · rw [Nat.zero_add, cell_of_row w q4, hget]
    · exact hmono _ _ (q5.2 j x _ hj' hget).1
end Go.AB
end

section
namespace Go.AB
open Go

/-- Deeper than any call goes. -/
def bigN : Nat := 18446744073709551616

@[go_sem] theorem nbeq_eq (a b : Nat) : Nat.beq a b = (a == b) := Bool.eq_iff_iff.2 (by rw [Nat.beq_eq]; simp)

theorem b_to {A C : Prop} {b : Bool} (h : b = true) (k : A → C) : A → b = true ∧ C := fun x => ⟨h, k x⟩
theorem n_to {A C : Prop} {a b : Nat} (h : a = b) (k : A → C) : A → a = b ∧ C := fun x => ⟨h, k x⟩
/-- Under a guard in a guard. -/
theorem sp_to {A P Q R : Prop} {b : Bool} {c1 c2 : Prop} (p : b = true → c1 → A → P) (q : b = true → c2 → A → Q) (r : b = false → A → R) : A → (b = true → c1 → P) ∧ (b = true → c2 → Q) ∧ (b = false → R) := fun a => ⟨fun h k => p h k a, fun h k => q h k a, fun h => r h a⟩
@[go_sem] theorem pad_int0 (l : List Int) : pad [.int .i64 0] (views (AB.sub (flat l) 0 1)) = [.int .i64 (ix l 0)] := pad_int l 0
theorem FE_cast {P : Program} {f : FuncId} {as1 as2 rs : List AV} {s s' : Store} (e : as1 = as2) (h : FE P f as1 s rs s') : FE P f as2 s rs s' := e ▸ h

/-! Taking an owned slice out of a heap object's cell. -/
def loadDR (σ : St) (d : Option Nat) (K : St → Prop) (b off : Nat) : Option SO → Prop
  | some (.cells cs) => takeC off cs fun cs' a => K ({ σ with s := σ.s.set b (.cells cs') }.put d a)
  | _ => False
@[go_sem] theorem loadDW_ref (σ : St) (d : Option Nat) (K : St → Prop) (b off : Nat) : loadDW σ d K (.ref b off) = loadDR σ d K b off (σ.s b) := by
  show (match σ.s b with | some (.cells cs) => takeC off cs fun cs' a => K ({ σ with s := σ.s.set b (.cells cs') }.put d a) | _ => False) = _
  unfold loadDR
  rcases σ.s b with _ | ⟨_ | _⟩ <;> rfl
@[go_sem] theorem loadDR_cells (σ : St) (d : Option Nat) (K : St → Prop) (b off : Nat) (cs : List AV) : loadDR σ d K b off (some (.cells cs)) = takeC off cs fun cs' a => K ({ σ with s := σ.s.set b (.cells cs') }.put d a) := rfl
/-! Taking an owned slice out of a local's cell. -/
def loadDL (σ : St) (d : Option Nat) (K : St → Prop) (i off : Nat) : AV → Prop
  | .loc cs => d ≠ some i ∧ takeC off cs fun cs' a => K ((σ.put (some i) (.loc cs')).put d a)
  | _ => False
@[go_sem] theorem loadDW_lp (σ : St) (d : Option Nat) (K : St → Prop) (i off : Nat) : loadDW σ d K (.lp i off) = loadDL σ d K i off (look σ.e i) := by
  show (match look σ.e i with | .loc cs => d ≠ some i ∧ takeC off cs fun cs' a => K ((σ.put (some i) (.loc cs')).put d a) | _ => False) = _
  cases look σ.e i <;> rfl
@[go_sem] theorem loadDL_loc (σ : St) (d : Nat) (K : St → Prop) (i off : Nat) (cs : List AV) : loadDL σ (some d) K i off (.loc cs) = (Nat.beq d i = false ∧ takeC off cs fun cs' a => K ((σ.put (some i) (.loc cs')).put (some d) a)) := by
  show (some d ≠ some i ∧ _) = _
  have e : (some d ≠ some i) = (Nat.beq d i = false) := propext ⟨fun h => by
    cases hb : Nat.beq d i with
    | false => rfl
    | true => exact (h (by rw [Nat.eq_of_beq_eq_true hb])).elim, fun h e => by
    injection e with e
    subst e
    rw [Nat.beq_refl] at h
    cases h⟩
  rw [e]
@[go_sem] theorem takeC_zero (o : Bool) (sz n : Nat) (ds cs : List AV) (k : List AV → AV → Prop) : takeC 0 (.sl o sz n ds :: cs) k = k (.sl false sz n ds :: cs) (.sl o sz n ds) := rfl
@[go_sem] theorem takeC_succ (a : AV) (n : Nat) (cs : List AV) (k : List AV → AV → Prop) : takeC (n + 1) (a :: cs) k = takeC n cs fun cs' x => k (a :: cs') x := by
  have e : ∀ x, setAt (a :: cs) (n + 1) [x] = a :: setAt cs n [x] := fun x => by
    unfold setAt
    rw [List.take_succ_cons, show n + 1 + [x].length = (n + [x].length) + 1 by simp [Nat.add_right_comm], List.drop_succ_cons]
    rfl
  unfold takeC
  rw [List.getElem?_cons_succ]
  cases h : cs[n]? with
  | none => rfl
  | some b => cases b <;> first | rfl | (simp only [e])

def ixI : AV → Option Int
  | .int _ n => some n
  | _ => none
@[go_sem] theorem ixV_none (f : IX → AV) (d : Int) : ixV f none d = some d := rfl
@[go_sem] theorem ixV_some (f : IX → AV) (x : IX) (d : Int) : ixV f (some x) d = ixI (f x) := rfl
@[go_sem] theorem ixI_int (k : IntKind) (n : Int) : ixI (.int k n) = some n := rfl
attribute [go_sem] Option.isSome_some Bool.cond_true
@[go_sem] theorem arrOff_zero (off cap sz : Nat) : arrOff off cap 0 sz = off := by
  unfold arrOff
  cases (cap == 0) <;> simp
@[go_sem] theorem toNat_zero : (0 : Int).toNat = 0 := rfl
attribute [go_sem] Int.toNat_natCast Int.sub_zero Nat.sub_zero
@[go_sem] theorem toNat_sub' (a b : Nat) : ((a : Int) - (b : Int)).toNat = a - b := by omega

section
variable {σ : St} {d : Option Nat} {K : St → Prop} {sz by' : Nat} {zero : List AV} {b off n cap m : Nat} {cs ds : List AV}
theorem srcV_arr {s : Store} (hs : s b = some (.cells cs)) (hf : off + m * sz ≤ cs.length) : srcV s sz (.arr b off m cap) = some (m, views (AB.sub cs off (m * sz))) := by
  show (bif m == 0 then some (0, []) else cellsAt m sz off (s b)) = _
  by_cases hm : m = 0
  · subst hm; simp [AB.sub, views]
  · rw [show (m == 0) = false by simpa using hm, hs]
    show (bif decide (off + m * sz ≤ cs.length) then some (m, views (AB.sub cs off (m * sz))) else none) = _
    rw [decide_eq_true hf]; rfl
theorem srcV_sl (s : Store) (ow : Bool) : srcV s sz (.sl ow sz m ds) = some (m, views ds) := by unfold srcV; simp
theorem srcV_none (s : Store) : srcV s sz (.arr b off 0 cap) = some (0, []) := rfl
theorem oldsV_arr {s : Store} (hs : s b = some (.cells cs)) (hf : off + n * sz ≤ cs.length) : oldsV s sz b off n = some (views (AB.sub cs off (n * sz))) := by
  unfold oldsV
  by_cases hm : n = 0
  · subst hm; simp [AB.sub, views]
  · rw [show (n == 0) = false by simpa using hm, hs]
    show ((bif decide (off + n * sz ≤ cs.length) then some (n, views (AB.sub cs off (n * sz))) else none) : Option (Nat × List AV)).map Prod.snd = _
    rw [decide_eq_true hf]; rfl
theorem appendAW_in (hz : zero.length = sz) (hs : σ.s b = some (.cells cs)) (hf : off + cap * sz ≤ cs.length) (hm : n + m ≤ cap)
    (hk : K ({ σ with s := σ.s.set b (.cells (setAt cs (off + n * sz) ds)) }.put d (.arr b off (n + m) cap))) : appendAW sz by' zero σ d K (.arr b off n cap) (some (m, ds)) := by
  have hn : off + n * sz ≤ cs.length := Nat.le_trans (Nat.add_le_add_left (Nat.mul_le_mul_right _ (by omega)) _) hf
  show appA sz by' zero σ d K b off n cap m ds (oldsV σ.s sz b off n)
  rw [oldsV_arr hs hn]
  refine ⟨hz, fun _ => .inr ⟨by rw [hs]; exact hf, ?_⟩, fun h => by omega⟩
  rw [hs]; exact hk
theorem appendAW_new (hz : zero.length = sz) {olds : List AV} (ho : oldsV σ.s sz b off n = some olds) (hm : cap < n + m) (hr : (n + m) * by' ≤ room)
    (hk : ∀ b' cap', σ.s b' = none → n + m ≤ cap' → K ({ σ with s := σ.s.set b' (.cells (olds ++ ds ++ (List.replicate (cap' - (n + m)) zero).flatten)) }.put d (.arr b' 0 (n + m) cap'))) : appendAW sz by' zero σ d K (.arr b off n cap) (some (m, ds)) := by
  show appA sz by' zero σ d K b off n cap m ds (oldsV σ.s sz b off n)
  rw [ho]
  exact ⟨hz, fun h => by omega, fun _ => ⟨hr, hk⟩⟩
theorem appendAW_zero (hz : zero.length = sz) {olds : List AV} (ho : oldsV σ.s sz b off n = some olds) (hm : n ≤ cap) (hk : K (σ.put d (.arr b off n cap))) : appendAW sz by' zero σ d K (.arr b off n cap) (some (0, ds)) := by
  show appA sz by' zero σ d K b off n cap 0 ds (oldsV σ.s sz b off n)
  rw [ho]
  exact ⟨hz, fun _ => .inl ⟨rfl, hk⟩, fun h => by omega⟩
theorem copyAW_in (hs : σ.s b = some (.cells cs)) (hf : off + n * sz ≤ cs.length)
    (hk : K ({ σ with s := σ.s.set b (.cells (setAt cs off (ds.take (min m n * sz)))) }.put d (.int .i64 (min m n : Nat)))) : copyAW sz σ d K (.arr b off n cap) (some (m, ds)) := by
  refine .inr ⟨by rw [hs]; exact hf, ?_⟩
  rw [hs]; exact hk
theorem copyAW_zero (h0 : min m n = 0) (hk : K (σ.put d (.int .i64 0))) : copyAW sz σ d K (.arr b off n cap) (some (m, ds)) := .inl ⟨h0, hk⟩
theorem clearAW_in (hz : views zero = zero) (hs : σ.s b = some (.cells cs)) (hf : off + n * zero.length ≤ cs.length)
    (hk : K ({ σ with s := σ.s.set b (.cells (setAt cs off (List.replicate n zero).flatten)) }.put d (.tup []))) : clearAW zero σ d K (.arr b off n cap) := by
  refine .inr ⟨by rw [hs]; exact hf, hz, ?_⟩
  rw [hs]; exact hk
theorem clearAW_zero (h0 : n = 0) (hk : K (σ.put d (.tup []))) : clearAW zero σ d K (.arr b off n cap) := .inl ⟨h0, hk⟩
theorem appendZW_new (hz : zero.length = sz) (hv : views zero = zero) {olds : List AV} (ho : oldsV σ.s sz b off n = some olds) (hm : cap < n + m) (hr : (n + m) * by' ≤ room)
    (hk : ∀ b' cap', σ.s b' = none → n + m ≤ cap' → K ({ σ with s := σ.s.set b' (.cells (olds ++ (List.replicate m zero).flatten ++ (List.replicate (cap' - (n + m)) zero).flatten)) }.put d (.arr b' 0 (n + m) cap'))) : appendZW sz by' zero σ d K (.arr b off n cap) (.int .i64 (m : Nat)) := by
  show 0 ≤ ((m : Nat) : Int) ∧ _
  refine ⟨Int.natCast_nonneg m, by simpa using hm, hv, ?_⟩
  rw [Int.toNat_natCast]
  show appA sz by' zero σ d K b off n cap m _ (oldsV σ.s sz b off n)
  rw [ho]
  exact ⟨hz, fun h => by omega, fun _ => ⟨hr, hk⟩⟩
theorem ovlW_in {P : Program} {f : FuncId} {ow : Bool} {b' off' n' cap' m : Nat} {cs : List AV} (h1 : OvlIs P f) (h2 : 0 < m) (h3 : cs ≠ []) (h4 : 0 < cap') {o : List AV} (h5 : σ.s b' = some (.cells o)) (h6 : o.length ≠ 0) (hk : K (σ.put d (.bool false))) : ovlW P f σ d K (.sl ow sz m cs) (.arr b' off' n' cap') := by
  cases m with
  | zero => omega
  | succ m => cases cs with
    | nil => exact absurd rfl h3
    | cons c cs => cases cap' with
      | zero => omega
      | succ cap' =>
        refine ⟨h1, ?_, hk⟩
        cases o with
        | nil => exact absurd rfl h6
        | cons _ _ => rw [h5]; exact trivial
theorem setAt2 (C X Y : List AV) (k k' : Nat) (h1 : k' = k + Y.length) (h2 : k' + X.length ≤ C.length) : setAt (setAt C k' X) k Y = C.take k ++ Y ++ X ++ C.drop (k' + X.length) := by
  unfold setAt
  have e1 : (C.take k' ++ X ++ C.drop (k' + X.length)).take k = C.take k := by
    rw [List.append_assoc, List.take_append_of_le_length (by simp; omega), List.take_take, Nat.min_eq_left (by omega)]
  have e2 : (C.take k' ++ X ++ C.drop (k' + X.length)).drop (k + Y.length) = X ++ C.drop (k' + X.length) := by
    rw [← h1, List.append_assoc, List.drop_append_of_le_length (by simp; omega), List.drop_of_length_le (by simp; omega), List.nil_append]
  rw [e1, e2]
  simp [List.append_assoc]
theorem arrOff_lt {off cap l sz : Nat} (h : l < cap) : arrOff off cap l sz = off + l * sz := by
  unfold arrOff; rw [show (cap == l) = false by simp; omega]; rfl
end

section
variable {α : Type} [Enc α]

theorem flat_take' (l : List α) (k : Nat) : flat (l.take k) = (flat l).take (k * Enc.w α) := (flat_take l k).symm
theorem flat_drop' (l : List α) (k : Nat) : flat (l.drop k) = (flat l).drop (k * Enc.w α) := (flat_drop l k).symm

theorem row_sub (l : List α) (sp : List AV) (n j m : Nat) (hn : n = Enc.w α) (h : j + m ≤ l.length) : AB.sub (flat l ++ sp) (j * n) (m * n) = flat ((l.drop j).take m) := by
  subst hn
  rw [← flat_sub l _ j m rfl]
  unfold AB.sub
  have h1 : j * Enc.w α ≤ (flat l).length := by rw [flat_len]; exact Nat.mul_le_mul_right _ (by omega)
  rw [List.drop_append_of_le_length h1, List.take_append_of_le_length]
  rw [List.length_drop, flat_len, ← Nat.sub_mul]
  exact Nat.mul_le_mul_right _ (by omega)

theorem row_set (l l' : List α) (sp : List AV) (n i : Nat) (hn : n = Enc.w α) (h : i + l'.length ≤ l.length) : setAt (flat l ++ sp) (i * n) (flat l') = flat (l.take i ++ l' ++ l.drop (i + l'.length)) ++ sp := by
  subst hn
  unfold setAt
  have e1 : i * Enc.w α + (flat l').length = (i + l'.length) * Enc.w α := by rw [flat_len, Nat.add_mul]
  have h1 : i * Enc.w α ≤ (flat l).length := by rw [flat_len]; exact Nat.mul_le_mul_right _ (by omega)
  have h2 : (i + l'.length) * Enc.w α ≤ (flat l).length := by rw [flat_len]; exact Nat.mul_le_mul_right _ h
  rw [e1, List.take_append_of_le_length h1, List.drop_append_of_le_length h2, flat_append, flat_append, flat_take', flat_drop']
  simp [List.append_assoc]

/-- Writing into the room behind a row. -/
theorem row_room (l l' : List α) (sp : List AV) (n : Nat) (hn : n = Enc.w α) (h : l'.length * n ≤ sp.length) : setAt (flat l ++ sp) (l.length * n) (flat l') = flat (l ++ l') ++ sp.drop (l'.length * n) := by
  subst hn
  unfold setAt
  have e0 : l.length * Enc.w α = (flat l).length := (flat_len l).symm
  have e1 : (flat l').length = l'.length * Enc.w α := flat_len l'
  rw [e0, List.take_left, List.drop_append, e1, flat_append]
  rw [List.drop_of_length_le (by omega)]
  simp

theorem flat_rep (z : α) (k : Nat) : flat (List.replicate k z) = (List.replicate k (Enc.cells z)).flatten := by
  unfold flat; rw [List.map_replicate]
end
end Go.AB
end

section
namespace Go.AB
open Go

theorem iterN_inv {S O : Type} {body : S → Option (S ⊕ O)} (I : S → Prop) (μ : S → Nat) (Post : O → Prop)
    (step : ∀ s, I s → ∃ x, body s = some x ∧ (match x with | .inl t => I t ∧ μ t < μ s | .inr o => Post o)) : ∀ (n : Nat) (s : S), I s → μ s < n → ∃ o, iterN body n s = some o ∧ Post o
  | 0, _, _, h => absurd h (Nat.not_lt_zero _)
  | n + 1, s, hi, hn => by
    obtain ⟨x, hx, h⟩ := step s hi
    cases x with
    | inl t =>
      obtain ⟨o, h1, h2⟩ := iterN_inv I μ Post step n t h.1 (by have := h.2; omega)
      exact ⟨o, by unfold iterN; rw [hx]; exact h1, h2⟩
    | inr o => exact ⟨o, by unfold iterN; rw [hx], h⟩

/-- A loop that goes on as long as it says. -/
theorem iter_inv {S O : Type} {body : S → Option (S ⊕ O)} {s0 : S} (I : S → Prop) (μ : S → Nat) (Post : O → Prop) (h0 : I s0) (hμ : μ s0 < 18446744073709551616)
    (step : ∀ s, I s → ∃ x, body s = some x ∧ (match x with | .inl t => I t ∧ μ t < μ s | .inr o => Post o)) : ∃ o, iter body s0 = some o ∧ Post o :=
  iterN_inv I μ Post step _ s0 h0 hμ

/-- The same where what comes of it is known. -/
theorem iter_eq {S O : Type} {body : S → Option (S ⊕ O)} {s0 : S} {o : O} (I : S → Prop) (μ : S → Nat) (h0 : I s0) (hμ : μ s0 < 18446744073709551616)
    (step : ∀ s, I s → (∃ t, body s = some (.inl t) ∧ I t ∧ μ t < μ s) ∨ body s = some (.inr o)) : iter body s0 = some o := by
  obtain ⟨p, h1, h2⟩ := iter_inv I μ (fun p => p = o) h0 hμ fun s hs => by
    rcases step s hs with ⟨t, h1, h2⟩ | h1
    · exact ⟨_, h1, h2⟩
    · exact ⟨_, h1, rfl⟩
  rw [h1, h2]

theorem w64_id {n : Int} (h1 : -9223372036854775808 ≤ n) (h2 : n ≤ 9223372036854775807) : w64 n = n := by
  unfold w64 IntKind.wrap
  have : (2 ^ IntKind.i64.bits : Int) = 18446744073709551616 := by decide
  have h3 : (2 ^ (IntKind.i64.bits - 1) : Int) = 9223372036854775808 := by decide
  rw [this, h3]
  simp only [IntKind.signed, Bool.true_and, decide_eq_true_eq]
  split <;> omega

@[simp] theorem bnd_some {α β : Type} (a : α) (f : α → Option β) : bnd (some a) f = f a := rfl
@[simp] theorem bnd_none {α β : Type} (f : α → Option β) : bnd none f = none := rfl
@[simp] theorem jn_some {α β : Type} (a : α) (f : α → Option β) : jn (some a) f = f a := rfl
@[simp] theorem jn_none {α β : Type} (f : α → Option β) : jn none f = none := rfl
@[simp] theorem bndS_l {X Y α : Type} (x : X) (F : X → Option α) (G : Y → Option α) : bndS (some (.inl x)) F G = F x := rfl
@[simp] theorem bndS_r {X Y α : Type} (y : Y) (F : X → Option α) (G : Y → Option α) : bndS (some (.inr y)) F G = G y := rfl
@[simp] theorem jnS_l {X Y α : Type} (x : X) (F : X → Option α) (G : Y → Option α) : jnS (some (.inl x)) F G = F x := rfl
@[simp] theorem jnS_r {X Y α : Type} (y : Y) (F : X → Option α) (G : Y → Option α) : jnS (some (.inr y)) F G = G y := rfl
@[simp] theorem jn_id {α : Type} (o : Option α) : jn o (fun a => some a) = o := by cases o <;> rfl
@[simp] theorem bnd_id {α : Type} (o : Option α) : bnd o (fun a => some a) = o := by cases o <;> rfl
theorem need_pos {α : Type} {c : Prop} [Decidable c] (h : c) (o : Option α) : need c o = o := if_pos h
@[simp] theorem need_true {α : Type} [Decidable True] (o : Option α) : need True o = o := if_pos trivial
@[simp] theorem whenB_t {α : Type} (z : α) (o : Option α) : whenB true z o = o := rfl
@[simp] theorem whenB_f {α : Type} (z : α) (o : Option α) : whenB false z o = some z := rfl
@[simp] theorem caseS_l' {A B C : Type} (f : A → C) (g : B → C) (a : A) : caseS f g (.inl a) = f a := rfl
@[simp] theorem caseS_r' {A B C : Type} (f : A → C) (g : B → C) (b : B) : caseS f g (.inr b) = g b := rfl
theorem ix_at {α : Type} [Enc α] {l : List α} {i : Int} (h : i.toNat < l.length) : ix l i = l[i.toNat] := by
  unfold ix; rw [List.getD_eq_getElem?_getD, List.getElem?_eq_getElem h]; rfl
theorem ix_nat {α : Type} [Enc α] {l : List α} {k : Nat} (h : k < l.length) : ix l (k : Int) = l[k] := by
  rw [ix_at (by simpa using h)]; simp
theorem ix_get {α : Type} [Enc α] {l : List α} {k : Nat} {a : α} (h : l[k]? = some a) : ix l (k : Int) = a := by
  unfold ix; rw [List.getD_eq_getElem?_getD]; simp [h]
end Go.AB
end

section
namespace Go.AB
open Go
theorem mix : Go.Proofs.Try.prog.follows .mixedOrders = true := by kernel_rfl
end Go.AB
end

section
namespace Go.AB
open Go

structure api_Value where
  Kind : Int
  N : Int
  S : Str
  L : (List api_Value)
mutual
def api_ValueC : api_Value → List AV
  | ⟨k, n, s, l⟩ => [.int .i64 k, .int .i64 n, .str s.b, .sl false 4 l.length (api_ValueL l)]
def api_ValueL : List api_Value → List AV
  | [] => []
  | v :: l => api_ValueC v ++ api_ValueL l
end
theorem api_ValueC_v (x : api_Value) : views (api_ValueC x) = api_ValueC x := by cases x; simp [api_ValueC, views, view]
theorem api_ValueC_l (x : api_Value) : (api_ValueC x).length = 4 := by cases x; simp [api_ValueC]
instance : Enc api_Value := ⟨4, api_ValueC, ⟨0, 0, ⟨[]⟩, []⟩, by decide, api_ValueC_l, api_ValueC_v⟩
theorem api_ValueL_flat : ∀ l : List api_Value, api_ValueL l = flat l
  | [] => by rw [api_ValueL]; rfl
  | v :: l => by rw [api_ValueL, api_ValueL_flat l]; rfl
@[go_sem] theorem cells_api_Value (x : api_Value) : Enc.cells x = [.int .i64 x.Kind, .int .i64 x.N, .str x.S.b, .sl false 4 x.L.length (flat x.L)] := by
  cases x
  show api_ValueC _ = _
  rw [api_ValueC, api_ValueL_flat]
@[go_sem] theorem w_api_Value : Enc.w api_Value = 4 := rfl
@[go_sem] theorem pad_api_Value (l : List api_Value) (i : Int) : pad [.int .i64 0, .int .i64 0, .str [], .sl false 4 0 []] (views (AB.sub (flat l) (i.toNat * 4) 4)) = [.int .i64 ((ix l i).Kind), .int .i64 ((ix l i).N), .str ((ix l i).S).b, .sl false 4 ((ix l i).L).length (flat ((ix l i).L))] := by
  rw [← cells_api_Value]; exact flat_pad _ 4 l i (by rw [cells_api_Value]; rfl) rfl
@[go_sem] theorem mk_api_Value (x : api_Value) : api_Value.mk x.Kind x.N x.S x.L = x := by cases x; rfl
/-- slices.Delete[[]catchword/api.Value,catchword/api.Value] -/
def ir_DeleteV : IC :=
 (.seq (.reg none [i1 6 (.mov false (.c (.arr 0 0 0 0)))] [0, 1, 2])
 (.seq (.reg none [mv 8 0,
 mv 9 1,
 mv 10 2,
 mv 11 0,
 i1 12 (.len 0 (.t 11)),
 i1 13 (.slice 4 (.t 8) (some (.t 9)) (some (.t 10)) (some (.t 12)))] [0, 1, 2])
 (.seq (.seq (.reg none [mv 14 1,
 mv 15 2,
 i1 16 (.bin .eql (.t 14) (.t 15))] [0, 1, 2, 16])
 (.cond (.t 16) (.seq (.reg none [mv 17 0,
 mv 6 17] [6])
 .ret)
 .skip))
 (.seq (.reg none [mv 18 0,
 i1 19 (.len 0 (.t 18)),
 mv 7 19] [0, 1, 2, 7])
 (.seq (.reg (some 6) [mv 20 0,
 mv 21 1,
 i1 22 (.slice 4 (.t 20) none (some (.t 21)) none),
 mv 23 0,
 mv 24 2,
 i1 25 (.slice 4 (.t 23) (some (.t 24)) none none),
 i1 26 (.appendA 4 56 [.int .i64 0, .int .i64 0, .str [], .sl false 4 0 []] (.t 22) (.t 25)),
 mv 0 26] [0, 7])
 (.seq (.reg none [mv 27 0,
 mv 28 0,
 i1 29 (.len 0 (.t 28)),
 mv 30 7,
 i1 31 (.slice 4 (.t 27) (some (.t 29)) (some (.t 30)) none),
 i0 (.clearA [.int .i64 0, .int .i64 0, .str [], .sl false 4 0 []] (.t 31))] [0])
 (.seq (.reg none [mv 32 0,
 mv 6 32] [6])
 .ret)))))))
def res_DeleteV : List IRes := [⟨6, true, none⟩]
theorem is_DeleteV : fnIs Go.Proofs.Try.prog 63 33 res_DeleteV ir_DeleteV = true := by kernel_rfl


/-- slices.Delete on a row of the store. -/
theorem deleteV_arr {b cap i j : Nat} {l : List api_Value} {sp : List AV} {s : Store} {Q : List AV → Store → Prop} (hs : s b = some (.cells (flat l ++ sp))) (hl : (flat l ++ sp).length = cap * 4) (hn : l.length ≤ cap) (hij : i < j) (hj : j ≤ l.length) (hbig : (l.length : Int) ≤ 9223372036854775807)
    (hq : Q [.arr b 0 (l.length - (j - i)) cap] (s.set b (.cells (flat (l.take i ++ l.drop j) ++ (flat (List.replicate (j - i) (⟨0, 0, ⟨[]⟩, []⟩ : api_Value)) ++ sp))))) :
    FN Go.Proofs.Try.prog 63 [.arr b 0 l.length cap, .int .i64 i, .int .i64 j] s Q := by
  refine FN.of (draw_ok mix) is_DeleteV rfl (Nat.le_of_ble_eq_true rfl) ?_
  rw [ir_DeleteV, res_DeleteV]
  simp -implicitDefEqProofs only [go_sem, start, startE, resVs, resV, resC, allV, retK, Nat.reduceBEq, Nat.reduceAdd, Nat.reduceMul, Nat.reduceLeDiff, Nat.reduceEqDiff, Nat.reduceBNe, Nat.ble_eq, UInt8.reduceToNat, hs]
  refine ⟨by omega, fun h => by have := eq_of_beq h; omega, fun _ => ⟨by omega, by omega, ?_⟩⟩
  have hsrc : srcV s 4 (.arr b (arrOff 0 cap j 4) (l.length - j) (cap - j)) = some (l.length - j, flat (l.drop j)) := by
    by_cases hjn : j = l.length
    · subst hjn
      rw [Nat.sub_self, srcV_none, List.drop_length]; rfl
    · rw [arrOff_lt (by omega), Nat.zero_add, srcV_arr hs (by rw [hl, ← Nat.add_mul]; exact Nat.mul_le_mul_right _ (by omega)), row_sub l sp 4 j _ rfl (by omega), flat_views, List.take_of_length_le (by simp)]
  rw [hsrc]
  refine appendAW_in rfl hs (by rw [hl]; omega) (by omega) ?_
  have hst := row_set l (l.drop j) sp 4 i rfl (by simp; omega)
  rw [Nat.zero_add, hst]
  generalize hl1 : l.take i ++ l.drop j ++ l.drop (i + (l.drop j).length) = l1
  have hlen1 : l1.length = l.length := by subst hl1; simp; omega
  have hz : (List.replicate (j - i) [.int .i64 0, .int .i64 0, .str [], .sl false 4 0 []]).flatten = flat (List.replicate (j - i) (⟨0, 0, ⟨[]⟩, []⟩ : api_Value)) := by
    rw [flat_rep]; rfl
  have hsp : (flat l1 ++ sp).length = cap * 4 := by
    rw [← hl, List.length_append, List.length_append, flat_len, flat_len, hlen1]
  have e1 : i + (l.length - j) < cap := by omega
  have hst2 := row_set l1 (List.replicate (j - i) (⟨0, 0, ⟨[]⟩, []⟩ : api_Value)) sp 4 (i + (l.length - j)) rfl (by simp; omega)
  have e2 : l1.take (i + (l.length - j)) = l.take i ++ l.drop j := by
    subst hl1
    rw [List.take_append_of_le_length (by simp; omega), List.take_of_length_le (by simp; omega)]
  have e3 : l1.drop (i + (l.length - j) + (List.replicate (j - i) (⟨0, 0, ⟨[]⟩, []⟩ : api_Value)).length) = [] := by
    rw [List.drop_eq_nil_iff]; simp; omega
  rw [e2, e3, List.append_nil] at hst2
  generalize hl2 : l.take i ++ l.drop j = l2 at hst2 hq
  simp -implicitDefEqProofs only [go_sem, start, startE, resVs, resV, resC, allV, retK, Nat.reduceBEq, Nat.reduceAdd, Nat.reduceMul, Nat.reduceLeDiff, Nat.reduceEqDiff, Nat.reduceBNe, Nat.ble_eq, UInt8.reduceToNat]
  refine ⟨by omega, ?_⟩
  rw [arrOff_lt e1]
  refine clearAW_in rfl set_at (by
    rw [hsp]
    show 0 + (i + (l.length - j)) * 4 + (l.length - (i + (l.length - j))) * 4 ≤ cap * 4
    omega) ?_
  rw [show l.length - (i + (l.length - j)) = j - i by omega, Nat.zero_add, hz, hst2]
  simp -implicitDefEqProofs only [go_sem, start, startE, resVs, resV, resC, allV, retK, Nat.reduceBEq, Nat.reduceAdd, Nat.reduceMul, Nat.reduceLeDiff, Nat.reduceEqDiff, Nat.reduceBNe, Nat.ble_eq, UInt8.reduceToNat]
  rw [show i + (l.length - j) = l.length - (j - i) by omega, List.append_assoc]
  exact hq

/-- slices.Clone[[]catchword/api.Value,catchword/api.Value] -/
def ir_CloneV : IC :=
 (.seq (.reg none [i1 2 (.mov false (.c (.arr 0 0 0 0)))] [0])
 (.seq (.seq (.reg none [mv 3 0,
 i1 4 (.eqN false (.t 3))] [0, 4])
 (.cond (.t 4) (.seq (.reg none [i1 2 (.mov false (.c (.arr 0 0 0 0)))] [2])
 .ret)
 .skip))
 (.seq (.reg none [i1 5 (.buildSlA 4 0 [] []),
 mv 6 0,
 i1 7 (.appendA 4 56 [.int .i64 0, .int .i64 0, .str [], .sl false 4 0 []] (.t 5) (.t 6)),
 mv 2 7] [2])
 .ret)))
def res_CloneV : List IRes := [⟨2, true, none⟩]
theorem is_CloneV : fnIs Go.Proofs.Try.prog 64 8 res_CloneV ir_CloneV = true := by kernel_rfl

def cloneVP (l : List api_Value) (s : Store) (rs : List AV) (s' : Store) : Prop := (∃ b cap sp, rs = [.arr b 0 l.length cap] ∧ s b = none ∧ 0 < cap ∧ l.length ≤ cap ∧ (flat l ++ sp).length = cap * 4 ∧ views (flat l ++ sp) = flat l ++ sp ∧ s' = s.set b (.cells (flat l ++ sp))) ∨ (l = [] ∧ s' = s ∧ ∃ b, rs = [.arr b 0 0 0])
theorem cloneV_arr {o : Bool} {l : List api_Value} {s : Store} (hr : l.length * 56 ≤ room) : FN Go.Proofs.Try.prog 64 [.sl o 4 l.length (flat l)] s (cloneVP l s) := by
  refine FN.weak (FN.of (draw_ok mix) is_CloneV rfl (Nat.le_of_ble_eq_true rfl) ?_)
  generalize hQ : (fun rs s' => ∃ s2, Sub s2 s' ∧ cloneVP l s rs s2) = Q
  have hq : ∀ rs s' s2, Sub s2 s' → cloneVP l s rs s2 → Q rs s' := fun rs s' s2 h1 h2 => by rw [← hQ]; exact ⟨s2, h1, h2⟩
  rw [ir_CloneV, res_CloneV]
  simp -implicitDefEqProofs only [go_sem, start, startE, resVs, resV, resC, allV, retK, Nat.reduceBEq, Nat.reduceAdd, Nat.reduceMul, Nat.reduceLeDiff, Nat.reduceEqDiff, Nat.reduceBNe, Nat.ble_eq, UInt8.reduceToNat]
  intro v hv
  refine ⟨fun h => hq _ _ s (Sub.refl s) (.inr ⟨List.eq_nil_of_length_eq_zero (hv (by simpa using h)), rfl, 0, rfl⟩), fun _ b1 hb1 => ?_⟩
  rw [srcV_sl, flat_views]
  by_cases hl : l = []
  · subst hl
    refine appendAW_zero rfl rfl (Nat.le_refl 0) ?_
    simp -implicitDefEqProofs only [go_sem, start, startE, resVs, resV, resC, allV, retK, Nat.reduceBEq, Nat.reduceAdd, Nat.reduceMul, Nat.reduceLeDiff, Nat.reduceEqDiff, Nat.reduceBNe, Nat.ble_eq, UInt8.reduceToNat]
    exact hq _ _ s ((Sub.refl s).set hb1) (.inr ⟨rfl, rfl, _, rfl⟩)
  · have hn : 0 < l.length := List.length_pos_iff.2 hl
    refine appendAW_new rfl rfl (by omega) (by rw [Nat.zero_add]; exact hr) fun b2 cap hb2 hcap => ?_
    rw [Nat.zero_add] at hcap
    have hz : (List.replicate (cap - (0 + l.length)) [.int .i64 0, .int .i64 0, .str [], .sl false 4 0 []]).flatten = flat (List.replicate (cap - l.length) (⟨0, 0, ⟨[]⟩, []⟩ : api_Value)) := by
      rw [flat_rep, Nat.zero_add]; rfl
    rw [hz]
    simp -implicitDefEqProofs only [go_sem, start, startE, resVs, resV, resC, allV, retK, Nat.reduceBEq, Nat.reduceAdd, Nat.reduceMul, Nat.reduceLeDiff, Nat.reduceEqDiff, Nat.reduceBNe, Nat.ble_eq, UInt8.reduceToNat, Nat.zero_add, List.nil_append]
    have hb2' : s b2 = none := ((Sub.refl s).set hb1).none hb2
    refine hq _ _ _ (Sub.set2 ((Sub.refl s).set hb1)) (.inl ⟨b2, cap, _, rfl, hb2', by omega, hcap, ?_, ?_, rfl⟩)
    · rw [List.length_append, flat_len, flat_len, List.length_replicate]
      show l.length * 4 + (cap - l.length) * 4 = cap * 4
      omega
    · rw [views_append, flat_views, flat_views]
theorem cloneV_sl {o : Bool} {l : List api_Value} {s : Store} (hr : l.length * 56 ≤ room) : FE Go.Proofs.Try.prog 64 [.sl o 4 l.length (flat l)] s [.sl true 4 l.length (flat l)] s :=
  FN.row_sl (flat_len l) (flat_views l) ⟨rfl, rfl⟩ ((cloneV_arr hr).mono fun rs s' h => by
    rcases h with ⟨b, cap, sp, h1, h2, h3, h4, h5, h6, h7⟩ | ⟨h1, h2, h3⟩
    · exact .inl ⟨b, cap, sp, h1, by rw [h7]; exact set_at, h3, h4, h5, by rw [h7, del_set h2]; exact Sub.refl s⟩
    · subst h1; exact .inr ⟨rfl, rfl, by rw [h2]; exact Sub.refl s, h3⟩)
theorem cloneV_us {o : Bool} {l : List api_Value} {s : Store} (hr : l.length * 56 ≤ room) : FE Go.Proofs.Try.prog 64 [.sl o 4 l.length (flat l)] s [.us 4 l.length (flat l)] s :=
  FN.row_us (flat_len l) ⟨rfl, rfl⟩ ((cloneV_arr hr).mono fun rs s' h => by
    rcases h with ⟨b, cap, sp, h1, h2, h3, h4, h5, h6, h7⟩ | ⟨h1, h2, h3⟩
    · exact .inl ⟨b, cap, sp, h1, by rw [h7]; exact set_at, h3, h4, h5, h6, by rw [h7, del_set h2]; exact Sub.refl s⟩
    · subst h1; exact .inr ⟨rfl, rfl, by rw [h2]; exact Sub.refl s, h3⟩)

/-- slices.Insert[[]catchword/api.Value,catchword/api.Value] -/
def ir_InsertV : IC :=
 (.seq (.reg none [i1 6 (.mov false (.c (.arr 0 0 0 0)))] [0, 1, 2])
 (.seq (.reg none [mv 10 0,
 mv 11 1,
 i1 12 (.slice 4 (.t 10) (some (.t 11)) none none)] [0, 1, 2])
 (.seq (.reg none [mv 13 2,
 i1 14 (.len 0 (.t 13)),
 mv 7 14] [0, 1, 2, 7])
 (.seq (.seq (.reg none [mv 15 7,
 i1 16 (.bin .eql (.t 15) (.c (.int .i64 0)))] [0, 1, 2, 7, 16])
 (.cond (.t 16) (.seq (.reg none [mv 17 0,
 mv 6 17] [6])
 .ret)
 .skip))
 (.seq (.reg none [mv 18 0,
 i1 19 (.len 0 (.t 18)),
 mv 8 19] [0, 1, 2, 7, 8])
 (.seq (.seq (.reg none [mv 20 1,
 mv 21 8,
 i1 22 (.bin .eql (.t 20) (.t 21))] [0, 1, 2, 7, 8, 22])
 (.cond (.t 22) (.seq (.reg none [mv 23 0,
 mv 24 2,
 i1 25 (.appendA 4 56 [.int .i64 0, .int .i64 0, .str [], .sl false 4 0 []] (.t 23) (.t 24)),
 mv 6 25] [6])
 .ret)
 .skip))
 (.seq (.seq (.reg none [mv 26 8,
 mv 27 7,
 i1 28 (.bin .add (.t 26) (.t 27)),
 mv 29 0,
 i1 30 (.cap (.t 29)),
 i1 31 (.bin .gtr (.t 28) (.t 30))] [0, 1, 2, 7, 8, 31])
 (.cond (.t 31) (.seq (.reg none [mv 32 0,
 mv 33 1,
 i1 34 (.slice 4 (.t 32) none (some (.t 33)) none),
 mv 35 8,
 mv 36 7,
 i1 37 (.bin .add (.t 35) (.t 36)),
 mv 38 1,
 i1 39 (.bin .sub (.t 37) (.t 38)),
 i1 40 (.appendZ 4 56 [.int .i64 0, .int .i64 0, .str [], .sl false 4 0 []] (.t 34) (.t 39)),
 mv 9 40] [0, 1, 2, 7, 9])
 (.seq (.reg none [mv 41 9,
 mv 42 1,
 i1 43 (.slice 4 (.t 41) (some (.t 42)) none none),
 mv 44 2,
 i1 45 (.copyA 4 (.t 43) (.t 44))] [0, 1, 7, 9])
 (.seq (.reg (some 8) [mv 46 9,
 mv 47 1,
 mv 48 7,
 i1 49 (.bin .add (.t 47) (.t 48)),
 i1 50 (.slice 4 (.t 46) (some (.t 49)) none none),
 mv 51 0,
 mv 52 1,
 i1 53 (.slice 4 (.t 51) (some (.t 52)) none none),
 i1 54 (.copyA 4 (.t 50) (.t 53))] [9])
 (.seq (.reg none [mv 55 9,
 mv 6 55] [6])
 .ret))))
 .skip))
 (.seq (.reg none [mv 56 0,
 mv 57 8,
 mv 58 7,
 i1 59 (.bin .add (.t 57) (.t 58)),
 i1 60 (.slice 4 (.t 56) none (some (.t 59)) none),
 mv 0 60] [0, 1, 2, 7, 8])
 (.seq (.seq (.reg none [mv 61 2,
 mv 62 0,
 mv 63 1,
 mv 64 7,
 i1 65 (.bin .add (.t 63) (.t 64)),
 i1 66 (.slice 4 (.t 62) (some (.t 65)) none none),
 i1 67 (.ovl 132 (.t 61) (.t 66)),
 i1 68 (.un .not (.t 67))] [0, 1, 2, 7, 8, 68])
 (.cond (.t 68) (.seq (.reg (some 8) [mv 69 0,
 mv 70 1,
 mv 71 7,
 i1 72 (.bin .add (.t 70) (.t 71)),
 i1 73 (.slice 4 (.t 69) (some (.t 72)) none none),
 mv 74 0,
 mv 75 1,
 i1 76 (.slice 4 (.t 74) (some (.t 75)) none none),
 i1 77 (.copyA 4 (.t 73) (.t 76))] [0, 1, 2])
 (.seq (.reg none [mv 78 0,
 mv 79 1,
 i1 80 (.slice 4 (.t 78) (some (.t 79)) none none),
 mv 81 2,
 i1 82 (.copyA 4 (.t 80) (.t 81))] [0])
 (.seq (.reg none [mv 83 0,
 mv 6 83] [6])
 .ret)))
 .skip))
 (.seq (.reg none [mv 84 0,
 mv 85 8,
 i1 86 (.slice 4 (.t 84) (some (.t 85)) none none),
 mv 87 2,
 i1 88 (.copyA 4 (.t 86) (.t 87))] [0, 1, 7])
 (.seq (.reg none [mv 89 0,
 mv 90 1,
 i1 91 (.slice 4 (.t 89) (some (.t 90)) none none),
 mv 92 7,
 i1 93 (.call 133 [(.t 91), (.t 92)])] [0])
 (.seq (.reg none [mv 94 0,
 mv 6 94] [6])
 .ret))))))))))))
def res_InsertV : List IRes := [⟨6, true, none⟩]
theorem is_InsertV : fnIs Go.Proofs.Try.prog 121 95 res_InsertV ir_InsertV = true := by kernel_rfl

def insertVP (l l2 : List api_Value) (i b : Nat) (s : Store) (rs : List AV) (s' : Store) : Prop := ∃ b' cap' sp', rs = [.arr b' 0 (l.length + l2.length) cap'] ∧ s' b' = some (.cells (flat (l.take i ++ l2 ++ l.drop i) ++ sp')) ∧ 0 < cap' ∧ l.length + l2.length ≤ cap' ∧ (flat (l.take i ++ l2 ++ l.drop i) ++ sp').length = cap' * 4 ∧ Sub (s.del b) (s'.del b')
theorem insertV_arr {o : Bool} {b cap i : Nat} {l l2 : List api_Value} {sp : List AV} {s : Store} (hov : OvlIs Go.Proofs.Try.prog 132) (hs : s b = some (.cells (flat l ++ sp))) (hl : (flat l ++ sp).length = cap * 4) (hn : l.length ≤ cap) (hi : i ≤ l.length) (h2 : l2 ≠ []) (hr : (l.length + l2.length) * 56 ≤ room) :
    FN Go.Proofs.Try.prog 121 [.arr b 0 l.length cap, .int .i64 i, .sl o 4 l2.length (flat l2)] s (insertVP l l2 i b s) := by
  generalize hQ : insertVP l l2 i b s = Q
  have hq : ∀ rs s', insertVP l l2 i b s rs s' → Q rs s' := fun rs s' h => by rw [← hQ]; exact h
  have hm : 0 < l2.length := List.length_pos_iff.2 h2
  unfold room at hr
  have hw1 : w64 ((l.length : Int) + (l2.length : Int)) = ((l.length + l2.length : Nat) : Int) := by rw [w64_id (by omega) (by omega)]; omega
  have hw2 : w64 (((l.length + l2.length : Nat) : Int) - (i : Int)) = ((l.length + l2.length - i : Nat) : Int) := by rw [w64_id (by omega) (by omega)]; omega
  have hw3 : w64 ((i : Int) + (l2.length : Int)) = ((i + l2.length : Nat) : Int) := by rw [w64_id (by omega) (by omega)]; omega
  have hlen : flat l2 ≠ [] := fun e => by
    have := flat_len l2
    rw [e] at this
    have hw : Enc.w api_Value = 4 := rfl
    rw [hw] at this
    simp at this; omega
  have hsp : sp.length = cap * 4 - l.length * 4 := by
    rw [List.length_append, flat_len] at hl
    have hw : Enc.w api_Value = 4 := rfl
    rw [hw] at hl; omega
  have fl : ∀ q : List api_Value, (flat q).length = q.length * 4 := fun q => flat_len q
  refine FN.of (draw_ok mix) is_InsertV rfl (Nat.le_of_ble_eq_true rfl) ?_
  rw [ir_InsertV, res_InsertV]
  simp -implicitDefEqProofs only [go_sem, start, startE, resVs, resV, resC, allV, retK, Nat.reduceBEq, Nat.reduceAdd, Nat.reduceMul, Nat.reduceLeDiff, Nat.reduceEqDiff, Nat.reduceBNe, Nat.ble_eq, UInt8.reduceToNat, hs, hw1, hw2, hw3]
  refine ⟨by omega, fun h => by have := eq_of_beq h; omega, fun _ => ⟨fun h => ?_, fun h => ⟨fun h => ?_, fun h => ?_⟩⟩⟩
  · -- behind all
    have hin : i = l.length := by have := eq_of_beq h; omega
    subst hin
    rw [srcV_sl, flat_views]
    by_cases hf : l.length + l2.length ≤ cap
    · refine appendAW_in rfl hs (by rw [hl]; omega) hf ?_
      rw [Nat.zero_add, row_room l l2 sp 4 rfl (by rw [hsp]; omega)]
      generalize hr2 : flat (l ++ l2) ++ sp.drop (l2.length * 4) = row
      simp -implicitDefEqProofs only [go_sem, start, startE, resVs, resV, resC, allV, retK, Nat.reduceBEq, Nat.reduceAdd, Nat.reduceMul, Nat.reduceLeDiff, Nat.reduceEqDiff, Nat.reduceBNe, Nat.ble_eq, UInt8.reduceToNat]
      refine hq _ _ ⟨b, cap, sp.drop (l2.length * 4), rfl, ?_, by omega, hf, ?_, ?_⟩
      · rw [set_at, ← hr2]; simp [List.append_assoc]
      · rw [List.length_append, fl, List.length_drop, hsp]; simp; omega
      · intro b' o' h'
        unfold Store.del Store.set at *
        split <;> simp_all
    · refine appendAW_new rfl (oldsV_arr hs (by rw [hl]; omega)) (by omega) (by unfold room; omega) fun b2 cap2 hb2 hcap2 => ?_
      replace hb2 : s b2 = none := hb2
      have hb2n : b2 ≠ b := fun e => by subst e; rw [hs] at hb2; cases hb2
      have e0 := row_sub l sp 4 0 l.length rfl (by omega)
      rw [Nat.zero_mul, List.drop_zero, List.take_length] at e0
      rw [e0, flat_views]
      have hz : (List.replicate (cap2 - (l.length + l2.length)) [.int .i64 0, .int .i64 0, .str [], .sl false 4 0 []]).flatten = flat (List.replicate (cap2 - (l.length + l2.length)) (⟨0, 0, ⟨[]⟩, []⟩ : api_Value)) := by
        rw [flat_rep]; rfl
      rw [hz, ← flat_append]
      generalize hr2 : flat (l ++ l2) ++ flat (List.replicate (cap2 - (l.length + l2.length)) (⟨0, 0, ⟨[]⟩, []⟩ : api_Value)) = row
      simp -implicitDefEqProofs only [go_sem, start, startE, resVs, resV, resC, allV, retK, Nat.reduceBEq, Nat.reduceAdd, Nat.reduceMul, Nat.reduceLeDiff, Nat.reduceEqDiff, Nat.reduceBNe, Nat.ble_eq, UInt8.reduceToNat]
      refine hq _ _ ⟨b2, cap2, flat (List.replicate (cap2 - (l.length + l2.length)) (⟨0, 0, ⟨[]⟩, []⟩ : api_Value)), rfl, ?_, by omega, hcap2, ?_, ?_⟩
      · rw [set_at, ← hr2]; simp [List.append_assoc]
      · rw [List.length_append, fl, fl]; simp; omega
      · rw [del_set hb2]
        intro b' o' h'
        unfold Store.del at h'
        split at h' <;> simp_all
  · -- a new row
    have hf : cap < l.length + l2.length := by have := of_decide_eq_true h; omega
    have hin : i < l.length := by
      rename_i hne
      have : ((i : Int) == (l.length : Int)) = false := hne
      simp at this; omega
    refine ⟨by omega, ?_⟩
    refine appendZW_new rfl rfl (oldsV_arr hs (by rw [hl]; omega)) (by omega) (by unfold room; omega) fun b2 cap2 hb2 hcap2 => ?_
    replace hb2 : s b2 = none := hb2
    have hb2n : b2 ≠ b := fun e => by subst e; rw [hs] at hb2; cases hb2
    have e0 := row_sub l sp 4 0 i rfl (by omega)
    rw [Nat.zero_mul, List.drop_zero] at e0
    have hz : ∀ k, (List.replicate k [.int .i64 0, .int .i64 0, .str [], .sl false 4 0 []]).flatten = flat (List.replicate k (⟨0, 0, ⟨[]⟩, []⟩ : api_Value)) := fun k => by rw [flat_rep]; rfl
    have ei : i + (l.length + l2.length - i) = l.length + l2.length := by omega
    rw [e0, flat_views, hz, hz, ← flat_append, ei]
    rw [ei] at hcap2
    generalize hsp2 : flat (List.replicate (cap2 - (l.length + l2.length)) (⟨0, 0, ⟨[]⟩, []⟩ : api_Value)) = sp2
    have hsp2l : sp2.length = cap2 * 4 - (l.length + l2.length) * 4 := by rw [← hsp2, fl, List.length_replicate]; omega
    generalize hq0 : l.take i ++ List.replicate (l.length + l2.length - i) (⟨0, 0, ⟨[]⟩, []⟩ : api_Value) = q0
    have hq0l : q0.length = l.length + l2.length := by rw [← hq0]; simp; omega
    simp -implicitDefEqProofs only [go_sem, start, startE, resVs, resV, resC, allV, retK, Nat.reduceBEq, Nat.reduceAdd, Nat.reduceMul, Nat.reduceLeDiff, Nat.reduceEqDiff, Nat.reduceBNe, Nat.ble_eq, UInt8.reduceToNat, hw1, hw2, hw3]
    refine ⟨by omega, ?_⟩
    rw [arrOff_lt (by omega), srcV_sl, flat_views]
    refine copyAW_in set_at (by rw [List.length_append, fl, hq0l, hsp2l]; omega) ?_
    have emin : min l2.length (l.length + l2.length - i) = l2.length := by omega
    rw [emin, List.take_of_length_le (by rw [fl]; omega), Nat.zero_add, row_set q0 l2 sp2 4 i rfl (by omega)]
    generalize hq1 : q0.take i ++ l2 ++ q0.drop (i + l2.length) = q1
    have hq1l : q1.length = l.length + l2.length := by rw [← hq1]; simp; omega
    simp -implicitDefEqProofs only [go_sem, start, startE, resVs, resV, resC, allV, retK, Nat.reduceBEq, Nat.reduceAdd, Nat.reduceMul, Nat.reduceLeDiff, Nat.reduceEqDiff, Nat.reduceBNe, Nat.ble_eq, UInt8.reduceToNat, hw1, hw2, hw3]
    refine ⟨by omega, by omega, ?_⟩
    rw [arrOff_lt (by omega), arrOff_lt (by omega)]
    rw [srcV_arr (s := s.set b2 (.cells (flat q1 ++ sp2))) (cs := flat l ++ sp) (by unfold Store.set; rw [if_neg hb2n.symm]; exact hs) (by rw [hl]; omega)]
    have e1 := row_sub l sp 4 i (l.length - i) rfl (by omega)
    rw [Nat.zero_add, e1, flat_views, List.take_of_length_le (by simp)]
    refine copyAW_in set_at (by rw [List.length_append, fl, hq1l, hsp2l]; omega) ?_
    have emin2 : min (l.length - i) (l.length + l2.length - (i + l2.length)) = l.length - i := by omega
    rw [emin2, List.take_of_length_le (by rw [fl]; simp), Nat.zero_add, row_set q1 (l.drop i) sp2 4 (i + l2.length) rfl (by simp; omega)]
    have hfin : q1.take (i + l2.length) ++ l.drop i ++ q1.drop (i + l2.length + (l.drop i).length) = l.take i ++ l2 ++ l.drop i := by
      have h3 : q1.drop (i + l2.length + (l.drop i).length) = [] := by rw [List.drop_eq_nil_iff]; simp; omega
      have h4 : q1.take (i + l2.length) = l.take i ++ l2 := by
        rw [← hq1, List.take_append_of_le_length (by simp; omega), List.take_of_length_le (by simp; omega), ← hq0, List.take_append_of_le_length (by simp; omega), List.take_take, Nat.min_self]
      rw [h3, h4, List.append_nil]
    rw [hfin]
    generalize hr2 : flat (l.take i ++ l2 ++ l.drop i) ++ sp2 = row
    simp -implicitDefEqProofs only [go_sem, start, startE, resVs, resV, resC, allV, retK, Nat.reduceBEq, Nat.reduceAdd, Nat.reduceMul, Nat.reduceLeDiff, Nat.reduceEqDiff, Nat.reduceBNe, Nat.ble_eq, UInt8.reduceToNat]
    refine hq _ _ ⟨b2, cap2, sp2, rfl, by rw [hr2]; simp only [set_at], by omega, hcap2, ?_, ?_⟩
    · rw [List.length_append, fl, hsp2l]; simp; omega
    · rw [del_set hb2]
      intro b' o' h'
      unfold Store.del at h'
      split at h' <;> simp_all
  · -- in place
    have hf : l.length + l2.length ≤ cap := by have := of_decide_eq_false h; omega
    have hin : i < l.length := by
      rename_i hne
      have : ((i : Int) == (l.length : Int)) = false := hne
      simp at this; omega
    refine ⟨by omega, by omega, ?_⟩
    rw [arrOff_lt (by omega)]
    refine ovlW_in hov hm hlen (by omega) hs (by rw [hl]; omega) ?_
    simp -implicitDefEqProofs only [go_sem, start, startE, resVs, resV, resC, allV, retK, Nat.reduceBEq, Nat.reduceAdd, Nat.reduceMul, Nat.reduceLeDiff, Nat.reduceEqDiff, Nat.reduceBNe, Nat.ble_eq, UInt8.reduceToNat, hw1, hw2, hw3]
    refine ⟨fun _ => ⟨by omega, by omega, ?_⟩, fun h => by cases h⟩
    rw [arrOff_lt (by omega), arrOff_lt (by omega)]
    rw [srcV_arr hs (by rw [hl]; omega)]
    refine copyAW_in hs (by rw [hl]; omega) ?_
    have emin : min (l.length + l2.length - i) (l.length + l2.length - (i + l2.length)) = l.length - i := by omega
    have esub : (views (AB.sub (flat l ++ sp) (0 + i * 4) ((l.length + l2.length - i) * 4))).take ((l.length - i) * 4) = flat (l.drop i) := by
      have e1 := row_sub l sp 4 i (l.length - i) rfl (by omega)
      have e2 : (AB.sub (flat l ++ sp) (0 + i * 4) ((l.length + l2.length - i) * 4)).take ((l.length - i) * 4) = AB.sub (flat l ++ sp) (i * 4) ((l.length - i) * 4) := by
        unfold AB.sub
        rw [List.take_take, Nat.zero_add, Nat.min_eq_left (Nat.mul_le_mul_right _ (by omega))]
      unfold views
      rw [← List.map_take, e2, e1, List.take_of_length_le (by simp)]
      exact flat_views _
    rw [emin, esub]
    generalize hr1 : setAt (flat l ++ sp) (0 + (i + l2.length) * 4) (flat (l.drop i)) = row1
    have hr1l : row1.length = cap * 4 := by rw [← hr1, setAt_len _ _ _ (by rw [fl, hl]; simp; omega), hl]
    simp -implicitDefEqProofs only [go_sem, start, startE, resVs, resV, resC, allV, retK, Nat.reduceBEq, Nat.reduceAdd, Nat.reduceMul, Nat.reduceLeDiff, Nat.reduceEqDiff, Nat.reduceBNe, Nat.ble_eq, UInt8.reduceToNat, hw1, hw2, hw3]
    refine ⟨by omega, ?_⟩
    rw [arrOff_lt (by omega), srcV_sl, flat_views]
    refine copyAW_in set_at (by rw [hr1l]; omega) ?_
    have emin2 : min l2.length (l.length + l2.length - i) = l2.length := by omega
    rw [emin2, List.take_of_length_le (by rw [fl]; omega), ← hr1, Nat.zero_add, Nat.zero_add, setAt2 _ _ _ (i * 4) ((i + l2.length) * 4) (by rw [fl]; omega) (by rw [fl, hl]; simp; omega)]
    have hrow : (flat l ++ sp).take (i * 4) ++ flat l2 ++ flat (l.drop i) ++ (flat l ++ sp).drop ((i + l2.length) * 4 + (flat (l.drop i)).length) = flat (l.take i ++ l2 ++ l.drop i) ++ sp.drop (l2.length * 4) := by
      have h1 : (flat l ++ sp).take (i * 4) = flat (l.take i) := by
        rw [List.take_append_of_le_length (by rw [fl]; omega), flat_take']; rfl
      have h2 : (i + l2.length) * 4 + (flat (l.drop i)).length = (flat l).length + l2.length * 4 := by rw [fl, fl]; simp; omega
      rw [h1, h2, List.drop_append, List.drop_of_length_le (Nat.le_add_right _ _), flat_append, flat_append]
      simp
    rw [hrow]
    generalize hr2 : flat (l.take i ++ l2 ++ l.drop i) ++ sp.drop (l2.length * 4) = row
    simp -implicitDefEqProofs only [go_sem, start, startE, resVs, resV, resC, allV, retK, Nat.reduceBEq, Nat.reduceAdd, Nat.reduceMul, Nat.reduceLeDiff, Nat.reduceEqDiff, Nat.reduceBNe, Nat.ble_eq, UInt8.reduceToNat]
    refine hq _ _ ⟨b, cap, sp.drop (l2.length * 4), rfl, by rw [hr2]; simp only [set_at], by omega, hf, ?_, ?_⟩
    · rw [List.length_append, fl, List.length_drop, hsp]; simp; omega
    · intro b' o' h'
      unfold Store.del Store.set at *
      split <;> simp_all

end Go.AB
end

section
namespace Go.AB
open Go
theorem ovl_run {P : Program} (w : World) (tS tR e : TypeId) (ht : P.underlying tS = some (.slice e)) (size : Nat) (hz : ∀ w, (Go.sizeOf e).run P w = .ok size w)
    (a b oa ob la ca lb cb : Nat) (hne : a ≠ b) (x y : Array Value) (ta tb : TypeId) (fa : Nat × Nat) (hA : w.heap[a]? = some (.cells x ta fa)) (hB : w.heap[b]? = some (.cells y tb (0, 0))) (hx : x.size ≠ 0) :
    (Extern.SlicesOverlaps.overlaps #[tS, tS] #[tR] #[.slice (some ⟨a, oa, none⟩) la ca, .slice (some ⟨b, ob, none⟩) lb cb]).run P w = .ok (.bool false) w := by
  have hnb : (a != b) = true := by simpa using hne
  have hnb' : (a == b) = false := by simpa using hne
  have hfb : ∀ o, w.frozen? ⟨b, o, none⟩ = false := fun o => by unfold World.frozen?; simp [hB]
  have hsa : w.shape? a = some (ta, x.size) := by unfold World.shape?; rw [hA]
  have hsb : w.shape? b = some (tb, y.size) := by unfold World.shape?; rw [hB]
  change Sem.run P (α := Value) (do
    let some t := (#[tS, tS] : Array TypeId)[0]? | stuck "slices.overlaps: no parameter types"
    let .slice elem ← underlying t | stuck "slices.overlaps: slice type expected"
    let size ← sizeOf elem
    match (some ⟨a, oa, none⟩ : Option Addr), (some ⟨b, ob, none⟩ : Option Addr) with
    | some a, some b =>
      if la = 0 ∨ lb = 0 ∨ size = 0 then pure (Value.bool false)
      else if a.block != b.block && (← frozen a) && (← frozen b) then unsupported .addressObserved
      else do
        if a.block != b.block then do
          noView a; noView b
          if ← mayBeOne a b then return Value.bool ((← choose (.extern "sameAddr.stringBytes" 2)) == 1)
        pure (Value.bool (a.block == b.block && a.off < b.off + lb * size && b.off < a.off + la * size))
    | _, _ => pure (Value.bool false)) w = _
  by_cases h0 : la = 0 ∨ lb = 0 ∨ size = 0
  · simp [run_underlying ht, hz, h0]
  · cases hk : x.size with
    | zero => exact absurd hk hx
    | succ kB =>
      rw [hk] at hsa
      cases hfa : w.frozen? ⟨a, oa, none⟩ <;> cases hfe : w.frozen? ⟨a, kB + 1, none⟩ <;>
        simp [run_underlying ht, hz, h0, hnb, hnb', frozen, noView, viewAt, mayBeOne, stringish, shape, Sem.run, hsa, hsb, hfa, hfe, hfb]
theorem ovl_is {P : Program} {f : FuncId} {tS tR e : TypeId} {m : Nat} (hs : (P.funcs[f]?).isSome = true) (hname : (((P.funcs[f]?).get hs).name == "runtime.NumGoroutine") = false)
    (hb : ((P.funcs[f]?).get hs).body.isNone = true) (hn : Extern.findNext ((P.funcs[f]?).get hs) = none) (he : Extern.find ((P.funcs[f]?).get hs) = some (Extern.SlicesOverlaps.overlaps #[tS, tS] #[tR]))
    (ht : P.underlying tS = some (.slice e)) (hi : sizeIs P e m = true) : OvlIs P f := by
  intro w a b oa la ca ob lb cb ta tb x y fa hne hA hx hB _
  refine ⟨w, ?_, rfl, rfl, rfl, rfl, Nat.le_refl _⟩
  rw [run_callFunc_extern (Option.some_get hs).symm hname hb hn he, ovl_run w tS tR e ht m (fun w => run_sizeOf hi w) a b oa ob la ca lb cb hne x y ta tb fa hA hB hx]
  rfl
end Go.AB
end

section
namespace Go.AB
open Go

/-- catchword/value.find -/
def value_find (v_0 : api_Value) (key_1 : Str) : Option (Int) :=
  if v_0.Kind != 7 then
    some (-1)
  else
    jnS (
      bndS (
        iter (fun (i2 : Int) =>
          if decide (i2 < (v_0.L.length : Int)) then
            need (0 ≤ i2 ∧ i2 < v_0.L.length) <|
            need ((((ix v_0.L i2).Kind) == 5) = true → 0 ≤ i2 ∧ i2 < v_0.L.length) <|
            if (((ix v_0.L i2).Kind) == 5) && (((ix v_0.L i2).S).b == key_1.b) then
              some (.inr (.inr i2))
            else
              some (.inl (w64 (i2 + 2)))
          else
            some (.inr (.inl ()))) 0) (fun (_ : Unit) =>
        some (.inl ()))
      (fun (t3 : Int) => some (.inr t3))) (fun (_ : Unit) =>
      some (-1))
    (fun (t1 : Int) => some t1)
def ir_value_find : IC :=
 (.seq (.reg none [i1 2 (.boxL 4 (.t 0)),
 i1 4 (.mov false (.c (.int .i64 0)))] [1, 2])
 (.seq (.seq (.reg none [i1 6 (.fieldAddr 0 (.t 2)),
 i1 7 (.load 1 false (.t 6)),
 i1 8 (.bin .neq (.t 7) (.c (.int .i64 7)))] [1, 2, 8])
 (.cond (.t 8) (.seq (.reg none [i1 4 (.mov false (.c (.int .i64 (-1))))] [4])
 .ret)
 .skip))
 (.join [] (.seq (.reg none [i1 5 (.mov false (.c (.int .i64 0)))] [1, 2, 5])
 (.block 0 (.loop [(1, false), (2, false), (5, false)] (.seq (.seq (.reg none [mv 9 5,
 i1 10 (.fieldAddr 3 (.t 2)),
 i1 11 (.load 1 false (.t 10)),
 i1 12 (.len 0 (.t 11)),
 i1 13 (.bin .lss (.t 9) (.t 12))] [1, 2, 5, 13])
 (.cond (.t 13) .skip
 (.exit 0)))
 (.seq (.block 1 (.seq (.reg none [i1 16 (.fieldAddr 3 (.t 2)),
 i1 17 (.load 1 false (.t 16)),
 mv 18 5,
 i1 19 (.indexAddr [.int .i64 0, .int .i64 0, .str [], .sl false 4 0 []] (.t 17) (.t 18)),
 i1 20 (.fieldAddr 0 (.t 19)),
 i1 21 (.load 1 false (.t 20)),
 i1 22 (.bin .eql (.t 21) (.c (.int .i64 5))),
 mv 23 22,
 i1g 24 23 true (.fieldAddr 3 (.t 2)),
 i1g 25 23 true (.load 1 false (.t 24)),
 mvg 26 5 23 true,
 i1g 27 23 true (.indexAddr [.int .i64 0, .int .i64 0, .str [], .sl false 4 0 []] (.t 25) (.t 26)),
 i1g 28 23 true (.fieldAddr 2 (.t 27)),
 i1g 29 23 true (.load 1 false (.t 28)),
 mvg 30 1 23 true,
 i1g 31 23 true (.bin .eql (.t 29) (.t 30)),
 i1 32 (.pick (.t 23) (.t 31) (.c (.bool false)))] [1, 2, 5, 32])
 (.cond (.t 32) (.seq (.reg none [mv 33 5,
 mv 4 33] [4])
 .ret)
 .skip)))
 (.reg none [mv 14 5,
 i1 15 (.bin .add (.t 14) (.c (.int .i64 2))),
 mv 5 15] [1, 2, 5]))))))
 (.seq (.reg none [i1 4 (.mov false (.c (.int .i64 (-1))))] [4])
 .ret))))
def res_value_find : List IRes := [⟨4, true, none⟩]
theorem is_value_find : fnIs Go.Proofs.Try.prog 62 34 res_value_find ir_value_find = true := by kernel_rfl
theorem value_find_fn {v_0 key_1} {s : Store} {Q : List AV → Store → Prop}  : ok (value_find v_0 key_1) (fun r => Q [.int .i64 r] s) → FN Go.Proofs.Try.prog 62 [.agg [.int .i64 v_0.Kind, .int .i64 v_0.N, .str v_0.S.b, .sl false 4 v_0.L.length (flat v_0.L)], .str key_1.b] s Q := by
  intro h
  refine FN.of (draw_ok mix) is_value_find rfl (Nat.le_of_ble_eq_true rfl) ?_
  revert h
  rw [ir_value_find, res_value_find, value_find]
  repeat' (first
    | with_reducible exact tt_to
    | with_reducible refine and_to ?_ ?_
    | with_reducible refine im_to ?_
    | ((with_reducible refine iter_to (fun (i2 : Int) => ⟨[(1, .str key_1.b), (2, .loc [.int .i64 v_0.Kind, .int .i64 v_0.N, .str v_0.S.b, .sl false 4 v_0.L.length (flat v_0.L)]), (5, .int .i64 i2)], [], s⟩) ?_ ?_); (first | exact rfl | simp -implicitDefEqProofs only [go_sem, start, startE, resVs, resV, resC, allV, retK, Nat.reduceBEq, Nat.reduceAdd, Nat.reduceMul, Nat.reduceLeDiff, Nat.reduceEqDiff, Nat.reduceBNe, Nat.ble_eq, UInt8.reduceToNat]); rintro J i2)
    | ((with_reducible refine join_toS (fun (_ : Unit) => ⟨[], [], s⟩) (fun J => ?_) ?_); rotate_left; rintro _)
    | simp -implicitDefEqProofs only [go_sem, start, startE, resVs, resV, resC, allV, retK, Nat.reduceBEq, Nat.reduceAdd, Nat.reduceMul, Nat.reduceLeDiff, Nat.reduceEqDiff, Nat.reduceBNe, Nat.ble_eq, UInt8.reduceToNat])
theorem value_find_fe {v_0 key_1} {s : Store} {r : Int}  (h : value_find v_0 key_1 = some r) : FE Go.Proofs.Try.prog 62 [.agg [.int .i64 v_0.Kind, .int .i64 v_0.N, .str v_0.S.b, .sl false 4 v_0.L.length (flat v_0.L)], .str key_1.b] s [.int .i64 r] s := value_find_fn   ⟨r, h, rfl, rfl⟩
/-- catchword/value.NameOf -/
def value_NameOf (s_0 : Str) : Option (api_Value) :=
  some (api_Value.mk 5 0 s_0 ([] : List api_Value))
def ir_value_NameOf : IC :=
 (.seq (.reg none [i1 2 (.allocL [.int .i64 0, .int .i64 0, .str [], .sl true 4 0 []])] [0, 2])
 (.seq (.reg none [mv 3 0,
 i1 4 (.build [.int .i64 0, .int .i64 0, .str [], .sl true 4 0 []] [(0, 1, (.c (.int .i64 5))), (2, 1, (.t 3))]),
 i0 (.store 4 (.t 2) (.t 4))] [2])
 .ret))
def res_value_NameOf : List IRes := [⟨2, false, some (4, true)⟩]
theorem is_value_NameOf : fnIs Go.Proofs.Try.prog 51 5 res_value_NameOf ir_value_NameOf = true := by kernel_rfl
theorem value_NameOf_fn {s_0} {s : Store} {Q : List AV → Store → Prop}  : ok (value_NameOf s_0) (fun r => Q [.agg [.int .i64 r.Kind, .int .i64 r.N, .str r.S.b, .sl false 4 r.L.length (flat r.L)]] s) → FN Go.Proofs.Try.prog 51 [.str s_0.b] s Q := by
  intro h
  refine FN.of (draw_ok mix) is_value_NameOf rfl (Nat.le_of_ble_eq_true rfl) ?_
  revert h
  rw [ir_value_NameOf, res_value_NameOf, value_NameOf]
  repeat' (first
    | with_reducible exact tt_to
    | with_reducible refine and_to ?_ ?_
    | with_reducible refine im_to ?_
    | simp -implicitDefEqProofs only [go_sem, start, startE, resVs, resV, resC, allV, retK, Nat.reduceBEq, Nat.reduceAdd, Nat.reduceMul, Nat.reduceLeDiff, Nat.reduceEqDiff, Nat.reduceBNe, Nat.ble_eq, UInt8.reduceToNat])
theorem value_NameOf_fe {s_0} {s : Store} {r : api_Value}  (h : value_NameOf s_0 = some r) : FE Go.Proofs.Try.prog 51 [.str s_0.b] s [.agg [.int .i64 r.Kind, .int .i64 r.N, .str r.S.b, .sl false 4 r.L.length (flat r.L)]] s := value_NameOf_fn   ⟨r, h, rfl, rfl⟩
/-- slices.Replace[[]catchword/api.Value,catchword/api.Value] -/
def ir_ReplaceV : IC :=
 (.seq (.reg none [i1 8 (.mov false (.c (.arr 0 0 0 0)))] [0, 1, 2, 3])
 (.seq (.reg none [mv 15 0,
 mv 16 1,
 mv 17 2,
 i1 18 (.slice 4 (.t 15) (some (.t 16)) (some (.t 17)) none)] [0, 1, 2, 3])
 (.seq (.seq (.reg none [mv 19 1,
 mv 20 2,
 i1 21 (.bin .eql (.t 19) (.t 20))] [0, 1, 2, 3, 21])
 (.cond (.t 21) (.seq (.reg none [mv 22 0,
 mv 23 1,
 mv 24 3,
 i1 25 (.call 121 [(.t 22), (.t 23), (.t 24)]),
 mv 8 25] [8])
 .ret)
 .skip))
 (.seq (.seq (.reg none [mv 26 2,
 mv 27 0,
 i1 28 (.len 0 (.t 27)),
 i1 29 (.bin .eql (.t 26) (.t 28))] [0, 1, 2, 3, 29])
 (.cond (.t 29) (.seq (.reg none [mv 30 0,
 mv 31 1,
 i1 32 (.slice 4 (.t 30) none (some (.t 31)) none),
 mv 33 3,
 i1 34 (.appendA 4 56 [.int .i64 0, .int .i64 0, .str [], .sl false 4 0 []] (.t 32) (.t 33)),
 mv 9 34] [0, 9])
 (.seq (.seq (.reg none [mv 35 9,
 i1 36 (.len 0 (.t 35)),
 mv 37 0,
 i1 38 (.len 0 (.t 37)),
 i1 39 (.bin .lss (.t 36) (.t 38))] [0, 9, 39])
 (.cond (.t 39) (.reg none [mv 40 0,
 mv 41 9,
 i1 42 (.len 0 (.t 41)),
 i1 43 (.slice 4 (.t 40) (some (.t 42)) none none),
 i0 (.clearA [.int .i64 0, .int .i64 0, .str [], .sl false 4 0 []] (.t 43))] [9])
 .skip))
 (.seq (.reg none [mv 44 9,
 mv 8 44] [8])
 .ret)))
 .skip))
 (.seq (.reg (some 13) [mv 45 0,
 mv 46 1,
 i1 47 (.slice 4 (.t 45) none (some (.t 46)) none),
 i1 48 (.len 0 (.t 47)),
 mv 49 3,
 i1 50 (.len 0 (.t 49)),
 i1 51 (.bin .add (.t 48) (.t 50)),
 mv 52 0,
 mv 53 2,
 i1 54 (.slice 4 (.t 52) (some (.t 53)) none none),
 i1 55 (.len 0 (.t 54)),
 i1 56 (.bin .add (.t 51) (.t 55)),
 mv 10 56] [0, 1, 2, 3, 10])
 (.seq (.seq (.reg none [mv 57 10,
 mv 58 0,
 i1 59 (.cap (.t 58)),
 i1 60 (.bin .gtr (.t 57) (.t 59))] [0, 1, 2, 3, 10, 60])
 (.cond (.t 60) (.seq (.reg none [mv 61 0,
 mv 62 1,
 i1 63 (.slice 4 (.t 61) none (some (.t 62)) none),
 mv 64 10,
 mv 65 1,
 i1 66 (.bin .sub (.t 64) (.t 65)),
 i1 67 (.appendZ 4 56 [.int .i64 0, .int .i64 0, .str [], .sl false 4 0 []] (.t 63) (.t 66)),
 mv 11 67] [0, 1, 2, 3, 11])
 (.seq (.reg none [mv 68 11,
 mv 69 1,
 i1 70 (.slice 4 (.t 68) (some (.t 69)) none none),
 mv 71 3,
 i1 72 (.copyA 4 (.t 70) (.t 71))] [0, 1, 2, 3, 11])
 (.seq (.reg (some 9) [mv 73 11,
 mv 74 1,
 mv 75 3,
 i1 76 (.len 0 (.t 75)),
 i1 77 (.bin .add (.t 74) (.t 76)),
 i1 78 (.slice 4 (.t 73) (some (.t 77)) none none),
 mv 79 0,
 mv 80 2,
 i1 81 (.slice 4 (.t 79) (some (.t 80)) none none),
 i1 82 (.copyA 4 (.t 78) (.t 81))] [11])
 (.seq (.reg none [mv 83 11,
 mv 8 83] [8])
 .ret))))
 .skip))
 (.seq (.reg none [mv 84 0,
 mv 85 10,
 i1 86 (.slice 4 (.t 84) none (some (.t 85)) none),
 mv 12 86] [0, 1, 2, 3, 10, 12])
 (.seq (.seq (.reg none [mv 87 1,
 mv 88 3,
 i1 89 (.len 0 (.t 88)),
 i1 90 (.bin .add (.t 87) (.t 89)),
 mv 91 2,
 i1 92 (.bin .leq (.t 90) (.t 91))] [0, 1, 2, 3, 10, 12, 92])
 (.cond (.t 92) (.seq (.reg none [mv 93 12,
 mv 94 1,
 i1 95 (.slice 4 (.t 93) (some (.t 94)) none none),
 mv 96 3,
 i1 97 (.copyA 4 (.t 95) (.t 96))] [0, 1, 2, 3, 10, 12])
 (.seq (.reg (some 9) [mv 98 12,
 mv 99 1,
 mv 100 3,
 i1 101 (.len 0 (.t 100)),
 i1 102 (.bin .add (.t 99) (.t 101)),
 i1 103 (.slice 4 (.t 98) (some (.t 102)) none none),
 mv 104 0,
 mv 105 2,
 i1 106 (.slice 4 (.t 104) (some (.t 105)) none none),
 i1 107 (.copyA 4 (.t 103) (.t 106))] [0, 10, 12])
 (.seq (.reg none [mv 108 0,
 mv 109 10,
 i1 110 (.slice 4 (.t 108) (some (.t 109)) none none),
 i0 (.clearA [.int .i64 0, .int .i64 0, .str [], .sl false 4 0 []] (.t 110))] [12])
 (.seq (.reg none [mv 111 12,
 mv 8 111] [8])
 .ret))))
 .skip))
 (.seq (.seq (.reg none [mv 112 12,
 mv 113 1,
 mv 114 3,
 i1 115 (.len 0 (.t 114)),
 i1 116 (.bin .add (.t 113) (.t 115)),
 i1 117 (.slice 4 (.t 112) (some (.t 116)) none none),
 mv 118 3,
 i1 119 (.ovl 132 (.t 117) (.t 118)),
 i1 120 (.un .not (.t 119))] [0, 1, 2, 3, 12, 120])
 (.cond (.t 120) (.seq (.reg (some 9) [mv 121 12,
 mv 122 1,
 mv 123 3,
 i1 124 (.len 0 (.t 123)),
 i1 125 (.bin .add (.t 122) (.t 124)),
 i1 126 (.slice 4 (.t 121) (some (.t 125)) none none),
 mv 127 0,
 mv 128 2,
 i1 129 (.slice 4 (.t 127) (some (.t 128)) none none),
 i1 130 (.copyA 4 (.t 126) (.t 129))] [1, 3, 12])
 (.seq (.reg none [mv 131 12,
 mv 132 1,
 i1 133 (.slice 4 (.t 131) (some (.t 132)) none none),
 mv 134 3,
 i1 135 (.copyA 4 (.t 133) (.t 134))] [12])
 (.seq (.reg none [mv 136 12,
 mv 8 136] [8])
 .ret)))
 .skip))
 (.seq (.reg none [mv 137 3,
 i1 138 (.len 0 (.t 137)),
 mv 139 2,
 mv 140 1,
 i1 141 (.bin .sub (.t 139) (.t 140)),
 i1 142 (.bin .sub (.t 138) (.t 141)),
 mv 13 142] [0, 1, 2, 3, 12, 13])
 (.seq (.seq (.reg none [mv 143 12,
 mv 144 1,
 mv 145 2,
 i1 146 (.slice 4 (.t 143) (some (.t 144)) (some (.t 145)) none),
 mv 147 3,
 i1 148 (.ovl 132 (.t 146) (.t 147)),
 i1 149 (.un .not (.t 148))] [0, 1, 2, 3, 12, 13, 149])
 (.cond (.t 149) (.seq (.reg (some 7) [mv 150 12,
 mv 151 1,
 mv 152 2,
 i1 153 (.slice 4 (.t 150) (some (.t 151)) (some (.t 152)) none),
 mv 154 3,
 mv 155 13,
 i1 156 (.slice 4 (.t 154) (some (.t 155)) none none),
 i1 157 (.copyA 4 (.t 153) (.t 156))] [0, 1, 3, 12, 13])
 (.seq (.reg (some 7) [mv 158 12,
 mv 159 0,
 i1 160 (.len 0 (.t 159)),
 i1 161 (.slice 4 (.t 158) (some (.t 160)) none none),
 mv 162 3,
 mv 163 13,
 i1 164 (.slice 4 (.t 162) none (some (.t 163)) none),
 i1 165 (.copyA 4 (.t 161) (.t 164))] [1, 12, 13])
 (.seq (.reg none [mv 166 12,
 mv 167 1,
 i1 168 (.slice 4 (.t 166) (some (.t 167)) none none),
 mv 169 13,
 i1 170 (.call 133 [(.t 168), (.t 169)])] [12])
 (.seq (.reg none [mv 171 12,
 mv 8 171] [8])
 .ret))))
 .skip))
 (.seq (.seq (.reg none [mv 172 12,
 mv 173 0,
 i1 174 (.len 0 (.t 173)),
 i1 175 (.slice 4 (.t 172) (some (.t 174)) none none),
 mv 176 3,
 i1 177 (.ovl 132 (.t 175) (.t 176)),
 i1 178 (.un .not (.t 177))] [0, 1, 2, 3, 12, 13, 178])
 (.cond (.t 178) (.seq (.reg (some 7) [mv 179 12,
 mv 180 0,
 i1 181 (.len 0 (.t 180)),
 i1 182 (.slice 4 (.t 179) (some (.t 181)) none none),
 mv 183 3,
 mv 184 13,
 i1 185 (.slice 4 (.t 183) none (some (.t 184)) none),
 i1 186 (.copyA 4 (.t 182) (.t 185))] [1, 2, 3, 12, 13])
 (.seq (.reg (some 7) [mv 187 12,
 mv 188 1,
 mv 189 2,
 i1 190 (.slice 4 (.t 187) (some (.t 188)) (some (.t 189)) none),
 mv 191 3,
 mv 192 13,
 i1 193 (.slice 4 (.t 191) (some (.t 192)) none none),
 i1 194 (.copyA 4 (.t 190) (.t 193))] [1, 12, 13])
 (.seq (.reg none [mv 195 12,
 mv 196 1,
 i1 197 (.slice 4 (.t 195) (some (.t 196)) none none),
 mv 198 13,
 i1 199 (.call 133 [(.t 197), (.t 198)])] [12])
 (.seq (.reg none [mv 200 12,
 mv 8 200] [8])
 .ret))))
 .skip))
 (.seq (.reg none [mv 201 3,
 mv 202 0,
 mv 203 2,
 i1 204 (.slice 4 (.t 202) (some (.t 203)) none none),
 i1 205 (.call 134 [(.t 201), (.t 204)]),
 mv 14 205] [1, 3, 12, 14])
 (.seq (.reg none [mv 206 12,
 mv 207 1,
 i1 208 (.slice 4 (.t 206) (some (.t 207)) none none),
 mv 209 3,
 i1 210 (.copyA 4 (.t 208) (.t 209))] [1, 3, 12, 14])
 (.seq (.reg (some 11) [mv 211 12,
 mv 212 1,
 mv 213 3,
 i1 214 (.len 0 (.t 213)),
 i1 215 (.bin .add (.t 212) (.t 214)),
 i1 216 (.slice 4 (.t 211) (some (.t 215)) none none),
 mv 217 12,
 mv 218 1,
 mv 219 14,
 i1 220 (.bin .add (.t 218) (.t 219)),
 i1 221 (.slice 4 (.t 217) (some (.t 220)) none none),
 i1 222 (.copyA 4 (.t 216) (.t 221))] [12])
 (.seq (.reg none [mv 223 12,
 mv 8 223] [8])
 .ret))))))))))))))))
def res_ReplaceV : List IRes := [⟨8, true, none⟩]
theorem is_ReplaceV : fnIs Go.Proofs.Try.prog 120 224 res_ReplaceV ir_ReplaceV = true := by kernel_rfl


/-- slices.Replace of one by one. -/
theorem replaceV_arr {ow : Bool} {b cap i : Nat} {l l2 : List api_Value} {sp : List AV} {s : Store} {Q : List AV → Store → Prop} (hs : s b = some (.cells (flat l ++ sp))) (hl : (flat l ++ sp).length = cap * 4) (hn : l.length ≤ cap) (hi : i < l.length) (hbig : (l.length : Int) < 9223372036854775807) (h1 : l2.length = 1)
    (hq : Q [.arr b 0 l.length cap] (s.set b (.cells (flat (l.take i ++ l2 ++ l.drop (i + 1)) ++ sp)))) :
    FN Go.Proofs.Try.prog 120 [.arr b 0 l.length cap, .int .i64 i, .int .i64 (i + 1 : Nat), .sl ow 4 1 (flat l2)] s Q := by
  have fl : ∀ q : List api_Value, (flat q).length = q.length * 4 := fun q => flat_len q
  have hw1 : w64 ((i : Int) + 1) = ((i + 1 : Nat) : Int) := by rw [w64_id (by omega) (by omega)]; omega
  have hw2 : w64 (((i + 1 : Nat) : Int) + ((l.length - (i + 1) : Nat) : Int)) = (l.length : Int) := by rw [w64_id (by omega) (by omega)]; omega
  have hne : ((i : Int) == ((i + 1 : Nat) : Int)) = false := by simp; omega
  have hlt : decide (((i + 1 : Nat) : Int) ≤ ((i + 1 : Nat) : Int)) = true := by simp
  have hcap : decide ((cap : Int) < (l.length : Int)) = false := by simp; omega
  refine FN.of (draw_ok mix) is_ReplaceV rfl (Nat.le_of_ble_eq_true rfl) ?_
  rw [ir_ReplaceV, res_ReplaceV]
  simp -implicitDefEqProofs only [go_sem, start, startE, resVs, resV, resC, allV, retK, Nat.reduceBEq, Nat.reduceAdd, Nat.reduceMul, Nat.reduceLeDiff, Nat.reduceEqDiff, Nat.reduceBNe, Nat.ble_eq, UInt8.reduceToNat, hs, hw1, hw2, hne, hlt, hcap]
  refine ⟨by omega, fun h => h.elim, fun _ => ⟨fun h => ?_, fun h => ?_⟩⟩
  · have hin : i + 1 = l.length := by have := eq_of_beq h; omega
    refine ⟨by omega, ?_⟩
    rw [srcV_sl, flat_views]
    refine appendAW_in rfl hs (by rw [hl]; omega) (by omega) ?_
    have e := row_set l l2 sp 4 i rfl (by omega)
    rw [h1] at e
    rw [Nat.zero_add, e, hin]
    rw [hin] at hq
    generalize hr : flat (l.take i ++ l2 ++ l.drop l.length) ++ sp = row at hq
    simp -implicitDefEqProofs only [go_sem, start, startE, resVs, resV, resC, allV, retK, Nat.reduceBEq, Nat.reduceAdd, Nat.reduceMul, Nat.reduceLeDiff, Nat.reduceEqDiff, Nat.reduceBNe, Nat.ble_eq, UInt8.reduceToNat]
    exact ⟨fun h => absurd (of_decide_eq_true h) (by omega), fun _ => hq⟩
  · have hin : i + 1 < l.length := by
      have : (((i + 1 : Nat) : Int) == (l.length : Int)) = false := h
      simp at this; omega
    refine ⟨by omega, by omega, fun h => False.elim h, fun _ => ⟨by omega, fun _ => ⟨by omega, ?_⟩, fun h => nomatch h⟩⟩
    rw [arrOff_lt (by omega), srcV_sl, flat_views]
    refine copyAW_in hs (by rw [hl]; omega) ?_
    have emin : min 1 (l.length - i) = 1 := by omega
    have e := row_set l l2 sp 4 i rfl (by omega)
    rw [emin, List.take_of_length_le (by rw [fl]; omega), Nat.zero_add, e, h1]
    generalize hl1 : l.take i ++ l2 ++ l.drop (i + 1) = l1 at hq
    have hl1l : l1.length = l.length := by rw [← hl1]; simp; omega
    have hl' : (flat l1 ++ sp).length = cap * 4 := by rw [← hl, List.length_append, List.length_append, fl, fl, hl1l]
    simp -implicitDefEqProofs only [go_sem, start, startE, resVs, resV, resC, allV, retK, Nat.reduceBEq, Nat.reduceAdd, Nat.reduceMul, Nat.reduceLeDiff, Nat.reduceEqDiff, Nat.reduceBNe, Nat.ble_eq, UInt8.reduceToNat, hw1, hw2]
    refine ⟨by omega, by omega, ?_⟩
    rw [arrOff_lt (by omega), srcV_arr set_at (by rw [hl']; omega)]
    have e2 := row_sub l1 sp 4 (i + 1) (l.length - (i + 1)) rfl (by omega)
    rw [Nat.zero_add, e2, flat_views]
    refine copyAW_in set_at (by rw [hl']; omega) ?_
    have e3 : (l1.drop (i + 1)).take (l.length - (i + 1)) = l1.drop (i + 1) := List.take_of_length_le (by simp; omega)
    have e4 := row_set l1 (l1.drop (i + 1)) sp 4 (i + 1) rfl (by simp; omega)
    have e5 : l1.drop (i + 1 + (l1.drop (i + 1)).length) = [] := by rw [List.drop_eq_nil_iff]; simp; omega
    rw [e5, List.append_nil, List.take_append_drop] at e4
    rw [Nat.min_self, e3, List.take_of_length_le (by rw [fl]; simp; omega), e4, set_set]
    simp -implicitDefEqProofs only [go_sem, start, startE, resVs, resV, resC, allV, retK, Nat.reduceBEq, Nat.reduceAdd, Nat.reduceMul, Nat.reduceLeDiff, Nat.reduceEqDiff, Nat.reduceBNe, Nat.ble_eq, UInt8.reduceToNat, hw1, hw2]
    refine ⟨by omega, clearAW_zero (by omega) ?_⟩
    simp -implicitDefEqProofs only [go_sem, start, startE, resVs, resV, resC, allV, retK, Nat.reduceBEq, Nat.reduceAdd, Nat.reduceMul, Nat.reduceLeDiff, Nat.reduceEqDiff, Nat.reduceBNe, Nat.ble_eq, UInt8.reduceToNat]
    exact hq


theorem ovlV : OvlIs Go.Proofs.Try.prog 132 := ovl_is (tS := 22) (tR := 4) (e := 24) (m := 4) (by kernel_rfl) (by kernel_rfl) (by kernel_rfl) (by kernel_rfl) (by kernel_rfl) (by kernel_rfl) (by kernel_rfl)

/-- slices.Insert into an empty row without a block. -/
theorem insertV_zero {o : Bool} {b : Nat} {l2 : List api_Value} {s : Store} {Q : List AV → Store → Prop} (h2 : l2 ≠ []) (hr : l2.length * 56 ≤ room)
    (hq : ∀ b' cap' sp', s b' = none → 0 < cap' → l2.length ≤ cap' → (flat l2 ++ sp').length = cap' * 4 → Q [.arr b' 0 l2.length cap'] (s.set b' (.cells (flat l2 ++ sp')))) :
    FN Go.Proofs.Try.prog 121 [.arr b 0 0 0, .int .i64 0, .sl o 4 l2.length (flat l2)] s Q := by
  have hm : 0 < l2.length := List.length_pos_iff.2 h2
  have fl : ∀ q : List api_Value, (flat q).length = q.length * 4 := fun q => flat_len q
  have hw1 : w64 (0 + (l2.length : Int)) = (l2.length : Int) := by unfold room at hr; rw [Int.zero_add, w64_id (by omega) (by omega)]
  refine FN.of (draw_ok mix) is_InsertV rfl (Nat.le_of_ble_eq_true rfl) ?_
  rw [ir_InsertV, res_InsertV]
  simp -implicitDefEqProofs only [go_sem, start, startE, resVs, resV, resC, allV, retK, Nat.reduceBEq, Nat.reduceAdd, Nat.reduceMul, Nat.reduceLeDiff, Nat.reduceEqDiff, Nat.reduceBNe, Nat.ble_eq, UInt8.reduceToNat, hw1]
  refine ⟨Int.le_refl _, fun h => absurd (eq_of_beq h) (by omega), fun _ => ⟨fun _ => ?_, fun h => nomatch h⟩⟩
  rw [srcV_sl, flat_views]
  refine appendAW_new rfl rfl (by omega) (by rw [Nat.zero_add]; exact hr) fun b2 cap2 hb2 hcap2 => ?_
  rw [Nat.zero_add] at hcap2
  replace hb2 : s b2 = none := hb2
  simp -implicitDefEqProofs only [go_sem, start, startE, resVs, resV, resC, allV, retK, Nat.reduceBEq, Nat.reduceAdd, Nat.reduceMul, Nat.reduceLeDiff, Nat.reduceEqDiff, Nat.reduceBNe, Nat.ble_eq, UInt8.reduceToNat, Nat.zero_add, List.nil_append]
  refine hq b2 cap2 _ hb2 (by omega) hcap2 ?_
  have hz : (List.replicate (cap2 - l2.length) [.int .i64 0, .int .i64 0, .str [], .sl false 4 0 []]).flatten = flat (List.replicate (cap2 - l2.length) (⟨0, 0, ⟨[]⟩, []⟩ : api_Value)) := by
    rw [flat_rep]; rfl
  rw [hz, List.length_append, fl, fl, List.length_replicate]; omega

def RowIs (s : Store) (b : Nat) (l : List api_Value) (cap : Nat) : Prop := (0 < cap ∧ l.length ≤ cap ∧ ∃ sp, s b = some (.cells (flat l ++ sp)) ∧ (flat l ++ sp).length = cap * 4) ∨ (l = [] ∧ cap = 0)
def Rest (s : Store) (b cap : Nat) : Store := bif cap == 0 then s else s.del b
theorem Sub.trans {s1 s2 s3 : Store} (h : Sub s1 s2) (k : Sub s2 s3) : Sub s1 s3 := fun b o h' => k b o (h b o h')
theorem rest_pos {s : Store} {b cap : Nat} (h : 0 < cap) : Rest s b cap = s.del b := by
  unfold Rest; rw [show (cap == 0) = false by simp; omega]; rfl
theorem cloneV_row {o : Bool} {l : List api_Value} {s : Store} {Q : List AV → Store → Prop} (hr : l.length * 56 ≤ room) (hq : ∀ b cap s', RowIs s' b l cap → Sub s (Rest s' b cap) → Q [.arr b 0 l.length cap] s') :
    FN Go.Proofs.Try.prog 64 [.sl o 4 l.length (flat l)] s Q := (cloneV_arr hr).mono fun rs s' h => by
  rcases h with ⟨b, cap, sp, h1, h2, h3, h4, h5, h6, h7⟩ | ⟨h1, h2, b, h3⟩
  · subst h1 h7
    refine hq b cap _ (.inl ⟨h3, h4, sp, set_at, h5⟩) ?_
    rw [rest_pos h3, del_set h2]; exact Sub.refl s
  · subst h1 h2 h3
    exact hq b 0 _ (.inr ⟨rfl, rfl⟩) (Sub.refl _)
theorem insertV_row {o : Bool} {b cap i : Nat} {l l2 : List api_Value} {s s0 : Store} {Q : List AV → Store → Prop} (hrow : RowIs s b l cap) (hsub : Sub s0 (Rest s b cap)) (hi : i ≤ l.length) (h2 : l2 ≠ []) (hr : (l.length + l2.length) * 56 ≤ room)
    (hq : Q [.sl true 4 (l.length + l2.length) (flat (l.take i ++ l2 ++ l.drop i))] s0) : FN Go.Proofs.Try.prog 121 [.arr b 0 l.length cap, .int .i64 i, .sl o 4 l2.length (flat l2)] s Q := by
  have hm : 0 < l2.length := List.length_pos_iff.2 h2
  have hlen : (l.take i ++ l2 ++ l.drop i).length = l.length + l2.length := by simp; omega
  refine FN.row_sl (by rw [flat_len, hlen]; rfl) (flat_views _) hq ?_
  rcases hrow with ⟨h3, h4, sp, h5, h6⟩ | ⟨h3, h4⟩
  · refine (insertV_arr ovlV h5 h6 h4 hi h2 hr).mono fun rs s' h => ?_
    obtain ⟨b', cap', sp', k1, k2, k3, k4, k5, k6⟩ := h
    rw [rest_pos h3] at hsub
    exact .inl ⟨b', cap', sp', k1, k2, k3, k4, k5, hsub.trans k6⟩
  · subst h3 h4
    have hi0 : i = 0 := by simpa using hi
    subst hi0
    refine insertV_zero h2 (by simpa using hr) fun b' cap' sp' k1 k2 k3 k4 => .inl ⟨b', cap', sp', ?_, ?_, k2, ?_, ?_, ?_⟩
    · simp
    · simp [set_at]
    · simpa using k3
    · simpa using k4
    · rw [del_set k1]; exact hsub
theorem replaceV_row {ow : Bool} {b cap i : Nat} {l l2 : List api_Value} {s s0 : Store} {Q : List AV → Store → Prop} (hrow : RowIs s b l cap) (hsub : Sub s0 (Rest s b cap)) (hi : i < l.length) (hbig : (l.length : Int) < 9223372036854775807) (h1 : l2.length = 1)
    (hq : Q [.sl true 4 l.length (flat (l.take i ++ l2 ++ l.drop (i + 1)))] s0) : FN Go.Proofs.Try.prog 120 [.arr b 0 l.length cap, .int .i64 i, .int .i64 (i + 1 : Nat), .sl ow 4 1 (flat l2)] s Q := by
  have hlen : (l.take i ++ l2 ++ l.drop (i + 1)).length = l.length := by simp; omega
  refine FN.row_sl (by rw [flat_len, hlen]; rfl) (flat_views _) hq ?_
  rcases hrow with ⟨h3, h4, sp, h5, h6⟩ | ⟨h3, h4⟩
  · refine replaceV_arr h5 h6 h4 hi hbig h1 ?_
    rw [rest_pos h3] at hsub
    refine .inl ⟨b, cap, sp, rfl, set_at, h3, h4, ?_, ?_⟩
    · rw [List.length_append, flat_len, hlen, ← flat_len, ← List.length_append, h6]
    · refine hsub.trans ?_
      intro b' o' h'
      unfold Store.del Store.set at *
      split <;> simp_all
  · subst h3; simp at hi
/-- Replacing nothing at the end is inserting. -/
theorem replaceV_end {ow : Bool} {b cap i : Nat} {l l2 : List api_Value} {s s0 : Store} {Q : List AV → Store → Prop} (hrow : RowIs s b l cap) (hsub : Sub s0 (Rest s b cap)) (hi : i = l.length) (h1 : l2.length = 1) (hr : (l.length + 1) * 56 ≤ room)
    (hq : Q [.sl false 4 (l.length + 1) (flat (l ++ l2))] s0) : FN Go.Proofs.Try.prog 120 [.arr b 0 l.length cap, .int .i64 i, .int .i64 i, .sl ow 4 1 (flat l2)] s Q := by
  subst hi
  have hn : l.length ≤ cap := by
    rcases hrow with ⟨_, h, _⟩ | ⟨h, _⟩
    · exact h
    · subst h; simp
  refine FN.of (draw_ok mix) is_ReplaceV rfl (Nat.le_of_ble_eq_true rfl) ?_
  rw [ir_ReplaceV, res_ReplaceV]
  simp -implicitDefEqProofs only [go_sem, start, startE, resVs, resV, resC, allV, retK, Nat.reduceBEq, Nat.reduceAdd, Nat.reduceMul, Nat.reduceLeDiff, Nat.reduceEqDiff, Nat.reduceBNe, Nat.ble_eq, UInt8.reduceToNat]
  refine ⟨by omega, fun _ => ?_, fun h => absurd h (by simp)⟩
  have hi := insertV_row (o := false) (i := l.length) (Q := ?_) hrow hsub (Nat.le_refl _) (l2 := l2) (by intro e; subst e; simp at h1) (by rw [h1]; exact hr) ?_
  · rw [h1] at hi
    exact hi
  · rw [h1]
    simp only [List.take_length, List.drop_length, List.append_nil]
    simp -implicitDefEqProofs only [go_sem, start, startE, resVs, resV, resC, allV, retK, Nat.reduceBEq, Nat.reduceAdd, Nat.reduceMul, Nat.reduceLeDiff, Nat.reduceEqDiff, Nat.reduceBNe, Nat.ble_eq, UInt8.reduceToNat]
    rw [← flat_append]
    exact hq
theorem FN.args {P : Program} {f : FuncId} {args args' : List AV} {s : Store} {Q : List AV → Store → Prop} (h : FN P f args' s Q) (ha : ∀ (G : Gh) (w : World) (vs : Array Value), StoreR G w s → ArgsR w G.R args vs → ArgsR w G.R args' vs) : FN P f args s Q :=
  fun G w vs h1 h2 h3 h4 => h G w vs h1 h2 h3 (ha G w vs h3 h4)
theorem arr_nil {w : World} {R : Nat → Nat} {b sz : Nat} {v : Value} (hv : VR w R (.arr b 0 0 0) v) : VR w R (.sl false sz 0 []) v := by
  rcases VR.inv_arr' hv with e | ⟨_, _, e⟩
  · rw [e]; exact .sl false sz 0 [] b 0 0 (fun _ => undef) Fl.nil (by simp) (Nat.zero_le _) (Nat.zero_le _) (fun j c hj => by simp at hj) (fun j c hj => by simp at hj)
  · rw [e]; exact .slnil _ _
theorem find_args {w : World} {R R' : Nat → Nat} {b cap : Nat} {l : List api_Value} {k n : Int} {S key : Str} {vs : Array Value} (mono : ∀ a u, VR w R a u → VR w R' a u) (hv : ∀ u, VR w R (.arr b 0 l.length cap) u → VR w R' (.sl false 4 l.length (flat l)) u)
    (ha : ArgsR w R [.agg [.int .i64 k, .int .i64 n, .str S.b, .arr b 0 l.length cap], .str key.b] vs) : ArgsR w R' [.agg [.int .i64 k, .int .i64 n, .str S.b, .sl false 4 l.length (flat l)], .str key.b] vs := by
  refine ⟨ha.1, fun j a v hj hvs => ?_⟩
  match j, hj with
  | 0, hj =>
    cases hj
    obtain ⟨us, e1, e2, e3, e4⟩ := VR.inv_agg (ha.2 0 _ v rfl hvs)
    subst e1
    refine .agg _ us ?_ e2 fun j c u hc hu => ?_
    · intro c hc
      simp only [List.mem_cons, List.not_mem_nil, or_false] at hc
      rcases hc with rfl | rfl | rfl | rfl <;> rfl
    · match j, hc with
      | 0, hc => cases hc; exact mono _ _ (e3 0 _ u rfl hu)
      | 1, hc => cases hc; exact mono _ _ (e3 1 _ u rfl hu)
      | 2, hc => cases hc; exact mono _ _ (e3 2 _ u rfl hu)
      | 3, hc => cases hc; exact hv u (e3 3 _ u rfl hu)
  | 1, hj => cases hj; exact mono _ _ (ha.2 1 _ v rfl hvs)
theorem find_row {b cap : Nat} {l : List api_Value} {k n r : Int} {S key : Str} {s : Store} {Q : List AV → Store → Prop} (hrow : RowIs s b l cap) (h : value_find ⟨k, n, S, l⟩ key = some r) (hq : Q [.int .i64 r] s) :
    FN Go.Proofs.Try.prog 62 [.agg [.int .i64 k, .int .i64 n, .str S.b, .arr b 0 l.length cap], .str key.b] s Q := by
  rcases hrow with ⟨h0, hn, sp, hs, hl⟩ | ⟨h0, h1⟩
  · refine FN.borrow b (l.length * 4) (args' := [.agg [.int .i64 k, .int .i64 n, .str S.b, .sl false 4 l.length (flat l)], .str key.b]) (FE.app (value_find_fe h) ⟨rfl, hq⟩) fun G w vs hst ha => ?_
    refine find_args (fun a u h => h.mono (fun i => ?_) fun _ _ _ => rfl) (fun u hu => arr_view hst (flat_len l) hn (flat_views l) (fun _ => ⟨sp, hs⟩) hu (by decide)) ha
    show G.R i ≤ if i = b ∧ b < w.heap.size then l.length * 4 else G.R i
    split
    · rename_i e
      obtain ⟨q2, q3, _⟩ := hst b _ hs
      rw [e.1, q3]; exact Nat.zero_le _
    · exact Nat.le_refl _
  · subst h0 h1
    exact FN.args (FE.app (value_find_fe h) hq) fun G w vs _ ha => find_args (l := []) (fun _ _ h => h) (fun u hu => arr_nil hu) ha

end Go.AB
end

section
namespace Go.AB
open Go

/-- catchword/value.Put -/
def ir_value_Put : IC :=
 (.seq (.reg none [i1 3 (.boxL 4 (.t 0)),
 i1 5 (.boxL 4 (.t 2)),
 i1 6 (.allocL [.int .i64 0, .int .i64 0, .str [], .sl true 4 0 []])] [1, 3, 5, 6])
 (.seq (.seq (.reg none [i1 10 (.fieldAddr 0 (.t 3)),
 i1 11 (.load 1 false (.t 10)),
 i1 12 (.bin .neq (.t 11) (.c (.int .i64 7)))] [1, 3, 5, 6, 12])
 (.cond (.t 12) (.seq (.reg none [i1 13 (.load 4 true (.t 3)),
 i0 (.store 4 (.t 6) (.t 13))] [6])
 .ret)
 .skip))
 (.seq (.reg none [i1 14 (.fieldAddr 3 (.t 3)),
 i1 15 (.load 1 false (.t 14)),
 i1 16 (.call 64 [(.t 15)]),
 i1 17 (.fieldAddr 3 (.t 3)),
 i0 (.store 1 (.t 17) (.t 16))] [1, 3, 5, 6])
 (.seq (.seq (.reg none [i1 18 (.load 4 true (.t 3)),
 mv 19 1,
 i1 20 (.call 62 [(.t 18), (.t 19)]),
 mv 7 20] [1, 3, 5, 6, 7])
 (.seq (.reg none [mv 21 7,
 i1 22 (.bin .geq (.t 21) (.c (.int .i64 0)))] [1, 3, 5, 6, 7, 22])
 (.cond (.t 22) (.seq (.reg none [i1 23 (.fieldAddr 3 (.t 3)),
 i1 24 (.load 1 false (.t 23)),
 mv 25 7,
 i1 26 (.bin .add (.t 25) (.c (.int .i64 1))),
 mv 27 7,
 i1 28 (.bin .add (.t 27) (.c (.int .i64 2))),
 i1 29 (.fieldAddr 3 (.t 3)),
 i1 30 (.load 1 false (.t 29)),
 i1 31 (.len 0 (.t 30)),
 i1 32 (.minmax false [(.t 28), (.t 31)]),
 i1 33 (.load 4 true (.t 5)),
 i1 34 (.buildSl 4 1 [.int .i64 0, .int .i64 0, .str [], .sl true 4 0 []] [(0, 4, (.t 33))]),
 i1 35 (.call 120 [(.t 24), (.t 26), (.t 32), (.t 34)]),
 i1 36 (.fieldAddr 3 (.t 3)),
 i0 (.store 1 (.t 36) (.t 35))] [3, 6])
 (.seq (.reg none [i1 37 (.load 4 true (.t 3)),
 i0 (.store 4 (.t 6) (.t 37))] [6])
 .ret))
 .skip)))
 (.seq (.reg none [i1 38 (.fieldAddr 3 (.t 3)),
 i1 39 (.load 1 false (.t 38)),
 i1 40 (.len 0 (.t 39)),
 mv 8 40] [1, 3, 5, 6, 8])
 (.seq (.seq (.reg none [i1 9 (.mov false (.c (.int .i64 0)))] [1, 3, 5, 6, 8, 9])
 (.block 0 (.loop [(1, false), (3, false), (5, false), (6, false), (8, false), (9, false)] (.seq (.seq (.reg none [mv 41 9,
 i1 42 (.fieldAddr 3 (.t 3)),
 i1 43 (.load 1 false (.t 42)),
 i1 44 (.len 0 (.t 43)),
 i1 45 (.bin .lss (.t 41) (.t 44))] [1, 3, 5, 6, 8, 9, 45])
 (.cond (.t 45) .skip
 (.exit 0)))
 (.seq (.block 1 (.seq (.reg none [i1 48 (.fieldAddr 3 (.t 3)),
 i1 49 (.load 1 false (.t 48)),
 mv 50 9,
 i1 51 (.indexAddr [.int .i64 0, .int .i64 0, .str [], .sl false 4 0 []] (.t 49) (.t 50)),
 i1 52 (.fieldAddr 0 (.t 51)),
 i1 53 (.load 1 false (.t 52)),
 i1 54 (.bin .eql (.t 53) (.c (.int .i64 5))),
 mv 55 54,
 i1g 56 55 true (.fieldAddr 3 (.t 3)),
 i1g 57 55 true (.load 1 false (.t 56)),
 mvg 58 9 55 true,
 i1g 59 55 true (.indexAddr [.int .i64 0, .int .i64 0, .str [], .sl false 4 0 []] (.t 57) (.t 58)),
 i1g 60 55 true (.fieldAddr 2 (.t 59)),
 i1g 61 55 true (.load 1 false (.t 60)),
 mvg 62 1 55 true,
 i1g 63 55 true (.bin .gtr (.t 61) (.t 62)),
 i1 64 (.pick (.t 55) (.t 63) (.c (.bool false)))] [1, 3, 5, 6, 8, 9, 64])
 (.cond (.t 64) (.seq (.reg none [mv 65 9,
 mv 8 65] [1, 3, 5, 6, 8])
 (.exit 0))
 .skip)))
 (.reg none [mv 46 9,
 i1 47 (.bin .add (.t 46) (.c (.int .i64 2))),
 mv 9 47] [1, 3, 5, 6, 8, 9]))))))
 (.seq (.reg (some 7) [i1 66 (.fieldAddr 3 (.t 3)),
 i1 67 (.load 1 false (.t 66)),
 mv 68 8,
 mv 69 1,
 i1 70 (.call 51 [(.t 69)]),
 i1 71 (.load 4 true (.t 5)),
 i1 72 (.buildSl 4 2 [.int .i64 0, .int .i64 0, .str [], .sl true 4 0 [], .int .i64 0, .int .i64 0, .str [], .sl true 4 0 []] [(0, 4, (.t 70)), (4, 4, (.t 71))]),
 i1 73 (.call 121 [(.t 67), (.t 68), (.t 72)]),
 i1 74 (.fieldAddr 3 (.t 3)),
 i0 (.store 1 (.t 74) (.t 73))] [3, 6])
 (.seq (.reg none [i1 75 (.load 4 true (.t 3)),
 i0 (.store 4 (.t 6) (.t 75))] [6])
 .ret))))))))
def res_value_Put : List IRes := [⟨6, false, some (4, true)⟩]
theorem is_value_Put : fnIs Go.Proofs.Try.prog 97 76 res_value_Put ir_value_Put = true := by kernel_rfl


def value_putAt (v : api_Value) (key : Str) : Option Int :=
  iter (fun (i : Int) =>
    if decide (i < (v.L.length : Int)) then
      need (0 ≤ i ∧ i < v.L.length) <|
      need ((((ix v.L i).Kind) == 5) = true → 0 ≤ i ∧ i < v.L.length) <|
      if (((ix v.L i).Kind) == 5) && !((Op.bytesLess ((ix v.L i).S).b key.b) || (((ix v.L i).S).b == key.b)) then some (.inr i)
      else some (.inl (w64 (i + 2)))
    else some (.inr (v.L.length : Int))) 0
def value_Put (v : api_Value) (key : Str) (x : api_Value) : Option api_Value :=
  if v.Kind != 7 then some v else
  need (v.L.length * 56 ≤ room) <|
  bnd (value_find v key) fun i =>
  if decide (i ≥ 0) then
    need (0 ≤ i ∧ i < v.L.length ∧ (v.L.length + 1) * 56 ≤ room) <|
    some ⟨v.Kind, v.N, v.S, v.L.take (i.toNat + 1) ++ [x] ++ v.L.drop (i.toNat + 2)⟩
  else
    bnd (value_putAt v key) fun k =>
    need (0 ≤ k ∧ k ≤ v.L.length ∧ (v.L.length + 2) * 56 ≤ room) <|
    some ⟨v.Kind, v.N, v.S, v.L.take k.toNat ++ [⟨5, 0, key, []⟩, x] ++ v.L.drop k.toNat⟩

theorem rd_row {l : List api_Value} {sp : List AV} {s : Store} {b : Nat} (hs : s b = some (.cells (flat l ++ sp))) {i : Int} (h0 : 0 ≤ i) (hi : i < l.length) (c m : Nat) (hc : c + m ≤ 4) : rdSO m (i.toNat * 4 + c) (s b) = some (views (AB.sub (Enc.cells (ix l i)) c m)) := by
  have hj : i.toNat < l.length := by omega
  have hlen : (flat l).length = l.length * 4 := flat_len l
  have e0 := row_sub l sp 4 i.toNat 1 rfl (by omega)
  have e1 : (l.drop i.toNat).take 1 = [ix l i] := by
    rw [ix_at hj, List.drop_eq_getElem_cons hj]; rfl
  rw [e1, Nat.one_mul] at e0
  have e2 : flat [ix l i] = Enc.cells (ix l i) := by unfold flat; simp
  rw [e2] at e0
  rw [hs]
  show rdCells m _ _ = _
  unfold rdCells
  have hle : i.toNat * 4 + c + m ≤ (flat l ++ sp).length := by rw [List.length_append, hlen]; omega
  rw [← e0]
  unfold AB.sub
  rw [decide_eq_true hle]
  rw [List.drop_take, List.drop_drop, List.take_take, Nat.min_eq_left (by omega)]
  rfl
theorem insertV_row2 {o : Bool} {b cap i m : Nat} {l l2 : List api_Value} {s s0 : Store} {Q : List AV → Store → Prop} (hm : l2.length = m) (hrow : RowIs s b l cap) (hsub : Sub s0 (Rest s b cap)) (hi : i ≤ l.length) (h2 : l2 ≠ []) (hr : (l.length + m) * 56 ≤ room)
    (hq : Q [.sl true 4 (l.length + m) (flat (l.take i ++ l2 ++ l.drop i))] s0) : FN Go.Proofs.Try.prog 121 [.arr b 0 l.length cap, .int .i64 i, .sl o 4 m (flat l2)] s Q := by
  subst hm; exact insertV_row hrow hsub hi h2 hr hq
theorem value_Put_fn {v x : api_Value} {key : Str} {s : Store} {Q : List AV → Store → Prop} (h : ok (value_Put v key x) fun r => Q [.agg [.int .i64 r.Kind, .int .i64 r.N, .str r.S.b, .sl false 4 r.L.length (flat r.L)]] s) :
    FN Go.Proofs.Try.prog 97 [.agg [.int .i64 v.Kind, .int .i64 v.N, .str v.S.b, .sl false 4 v.L.length (flat v.L)], .str key.b, .agg [.int .i64 x.Kind, .int .i64 x.N, .str x.S.b, .sl false 4 x.L.length (flat x.L)]] s Q := by
  obtain ⟨vk, vn, vs, vl⟩ := v
  refine FN.of (draw_ok mix) is_value_Put rfl (Nat.le_of_ble_eq_true rfl) ?_
  unfold value_Put at h
  rw [ok_ite] at h
  rw [ir_value_Put, res_value_Put]
  simp -implicitDefEqProofs only [go_sem, start, startE, resVs, resV, resC, allV, retK, Nat.reduceBEq, Nat.reduceAdd, Nat.reduceMul, Nat.reduceLeDiff, Nat.reduceEqDiff, Nat.reduceBNe, Nat.ble_eq, UInt8.reduceToNat]
  refine ⟨fun hk => by have h1 := h.1 hk; rw [ok_some] at h1; exact h1, fun hk => ?_⟩
  replace h := h.2 hk
  rw [ok_need, ok_bnd] at h
  obtain ⟨hr, i, hfi, h⟩ := h
  replace hr : vl.length * 56 ≤ room := hr
  refine cloneV_row hr fun b cap s1 hrow hsub => ?_
  simp -implicitDefEqProofs only [go_sem, start, startE, resVs, resV, resC, allV, retK, Nat.reduceBEq, Nat.reduceAdd, Nat.reduceMul, Nat.reduceLeDiff, Nat.reduceEqDiff, Nat.reduceBNe, Nat.ble_eq, UInt8.reduceToNat]
  refine find_row hrow hfi ?_
  rw [ok_ite, ok_need, ok_some, ok_bnd] at h
  simp -implicitDefEqProofs only [go_sem, start, startE, resVs, resV, resC, allV, retK, Nat.reduceBEq, Nat.reduceAdd, Nat.reduceMul, Nat.reduceLeDiff, Nat.reduceEqDiff, Nat.reduceBNe, Nat.ble_eq, UInt8.reduceToNat]
  refine ⟨fun hi => ?_, fun hi => ?_⟩
  · obtain ⟨⟨h1, h2, h3⟩, hq⟩ := h.1 hi
    obtain ⟨j, rfl⟩ : ∃ j : Nat, i = (j : Int) := ⟨i.toNat, by omega⟩
    replace h2 : j < vl.length := by have : (j : Int) < vl.length := h2; omega
    replace h3 : (vl.length + 1) * 56 ≤ room := h3
    unfold room at hr h3
    replace hq : Q [.agg [.int .i64 vk, .int .i64 vn, .str vs.b, .sl false 4 (vl.take (j + 1) ++ [x] ++ vl.drop (j + 2)).length (flat (vl.take (j + 1) ++ [x] ++ vl.drop (j + 2)))]] s := hq
    have hw1 : w64 ((j : Int) + 1) = ((j + 1 : Nat) : Int) := by rw [w64_id (by omega) (by omega)]; omega
    have hw2 : w64 ((j : Int) + 2) = ((j + 2 : Nat) : Int) := by rw [w64_id (by omega) (by omega)]; omega
    have hx : [AV.int .i64 x.Kind, .int .i64 x.N, .str x.S.b, .sl false 4 x.L.length (flat x.L)] = flat [x] := by simp only [go_sem]
    generalize hxs : [x] = xs at hq hx
    have hx1 : xs.length = 1 := by subst hxs; rfl
    simp -implicitDefEqProofs only [go_sem, start, startE, resVs, resV, resC, allV, retK, Nat.reduceBEq, Nat.reduceAdd, Nat.reduceMul, Nat.reduceLeDiff, Nat.reduceEqDiff, Nat.reduceBNe, Nat.ble_eq, UInt8.reduceToNat, hw1, hw2, hx]
    clear h
    by_cases hj : j + 1 = vl.length
    · rw [show min ((j + 2 : Nat) : Int) (vl.length : Int) = ((j + 1 : Nat) : Int) by omega]
      refine replaceV_end hrow hsub hj hx1 h3 ?_
      have e : vl.take (j + 1) ++ xs ++ vl.drop (j + 2) = vl ++ xs := by
        rw [hj, List.take_length, List.drop_of_length_le (by omega), List.append_nil]
      have el : (vl ++ xs).length = vl.length + 1 := by rw [List.length_append, hx1]
      rw [e, el] at hq
      generalize vl ++ xs = L at hq
      simp -implicitDefEqProofs only [go_sem, start, startE, resVs, resV, resC, allV, retK, Nat.reduceBEq, Nat.reduceAdd, Nat.reduceMul, Nat.reduceLeDiff, Nat.reduceEqDiff, Nat.reduceBNe, Nat.ble_eq, UInt8.reduceToNat]
      exact hq
    · rw [show min ((j + 2 : Nat) : Int) (vl.length : Int) = ((j + 1 + 1 : Nat) : Int) by omega]
      refine replaceV_row (i := j + 1) hrow hsub (by omega) (by omega) hx1 ?_
      have el : (vl.take (j + 1) ++ xs ++ vl.drop (j + 2)).length = vl.length := by
        simp only [List.length_append, List.length_take, List.length_drop, hx1]; omega
      rw [el] at hq
      show callK _ _ _ [.sl true 4 vl.length (flat (vl.take (j + 1) ++ xs ++ vl.drop (j + 2)))] s
      generalize vl.take (j + 1) ++ xs ++ vl.drop (j + 2) = L at hq
      simp -implicitDefEqProofs only [go_sem, start, startE, resVs, resV, resC, allV, retK, Nat.reduceBEq, Nat.reduceAdd, Nat.reduceMul, Nat.reduceLeDiff, Nat.reduceEqDiff, Nat.reduceBNe, Nat.ble_eq, UInt8.reduceToNat]
      exact hq
  · obtain ⟨k, hk2, hn⟩ := h.2 hi
    rw [ok_need, ok_some] at hn
    obtain ⟨⟨h1, h2, h3⟩, hq⟩ := hn
    clear h
    obtain ⟨k, rfl⟩ : ∃ k' : Nat, k = (k' : Int) := ⟨k.toNat, by omega⟩
    replace h2 : k ≤ vl.length := by have : (k : Int) ≤ vl.length := h2; omega
    replace h3 : (vl.length + 2) * 56 ≤ room := h3
    replace hq : Q [.agg [.int .i64 vk, .int .i64 vn, .str vs.b, .sl false 4 (vl.take k ++ [⟨5, 0, key, []⟩, x] ++ vl.drop k).length (flat (vl.take k ++ [⟨5, 0, key, []⟩, x] ++ vl.drop k))]] s := hq
    have hx : [AV.int .i64 5, .int .i64 0, .str key.b, .sl false 4 0 [], AV.int .i64 x.Kind, .int .i64 x.N, .str x.S.b, .sl false 4 x.L.length (flat x.L)] = flat [⟨5, 0, key, []⟩, x] := by simp only [go_sem]
    generalize hxs : [(⟨5, 0, key, []⟩ : api_Value), x] = xs at hq hx
    have hx1 : xs.length = 2 := by subst hxs; rfl
    have el : (vl.take k ++ xs ++ vl.drop k).length = vl.length + 2 := by
      simp only [List.length_append, List.length_take, List.length_drop, hx1]; omega
    rw [el] at hq
    have key : ok (value_putAt ⟨vk, vn, vs, vl⟩ key) (fun a => a = (k : Int)) := ⟨_, hk2, rfl⟩
    revert key
    unfold value_putAt
    refine iter_to (fun i => ⟨[(1, .str key.b), (3, .loc [.int .i64 vk, .int .i64 vn, .str vs.b, .arr b 0 vl.length cap]), (5, .loc [.int .i64 x.Kind, .int .i64 x.N, .str x.S.b, .sl false 4 x.L.length (flat x.L)]), (6, .loc [.int .i64 0, .int .i64 0, .str [], .sl true 4 0 []]), (8, .int .i64 vl.length), (9, .int .i64 i)], [], s1⟩) rfl ?_
    intro J i hb
    simp only [ok_ite, ok_need, ok_some, caseS_l, caseS_r] at hb
    simp -implicitDefEqProofs only [go_sem, start, startE, resVs, resV, resC, allV, retK, Nat.reduceBEq, Nat.reduceAdd, Nat.reduceMul, Nat.reduceLeDiff, Nat.reduceEqDiff, Nat.reduceBNe, Nat.ble_eq, UInt8.reduceToNat]
    refine ⟨fun hlt => ?_, fun hge => ?_⟩
    · replace hb := hb.1 hlt
      obtain ⟨⟨b1, b2⟩, _, b4, b5⟩ := hb
      obtain ⟨sp, hs⟩ : ∃ sp, s1 b = some (.cells (flat vl ++ sp)) := by
        rcases hrow with ⟨_, _, sp, h, _⟩ | ⟨h, _⟩
        · exact ⟨sp, h⟩
        · subst h; simp at b2; omega
      have r0 := rd_row hs b1 b2 0 1 (by decide)
      have r2 := rd_row hs b1 b2 2 1 (by decide)
      refine ⟨⟨b1, b2⟩, ?_⟩
      simp -implicitDefEqProofs only [go_sem, start, startE, resVs, resV, resC, allV, retK, Nat.reduceBEq, Nat.reduceAdd, Nat.reduceMul, Nat.reduceLeDiff, Nat.reduceEqDiff, Nat.reduceBNe, Nat.ble_eq, UInt8.reduceToNat, r0, r2]
      refine ⟨fun _ => ⟨b1, b2⟩, fun hc => ?_, b5⟩
      obtain rfl := b4 hc
      refine ⟨[.agg [.int .i64 5, .int .i64 0, .str key.b, .sl false 4 0 []]], rfl, value_NameOf_fe (r := ⟨5, 0, key, []⟩) rfl, ?_⟩
      simp -implicitDefEqProofs only [go_sem, start, startE, resVs, resV, resC, allV, retK, Nat.reduceBEq, Nat.reduceAdd, Nat.reduceMul, Nat.reduceLeDiff, Nat.reduceEqDiff, Nat.reduceBNe, Nat.ble_eq, UInt8.reduceToNat, hx, List.append_nil]
      refine ⟨by rw [flat_len, hx1]; rfl, ?_⟩
      refine insertV_row2 hx1 hrow hsub h2 (by intro e; subst e; simp at hx1) h3 ?_
      generalize vl.take k ++ xs ++ vl.drop k = L at hq
      simp -implicitDefEqProofs only [go_sem, start, startE, resVs, resV, resC, allV, retK, Nat.reduceBEq, Nat.reduceAdd, Nat.reduceMul, Nat.reduceLeDiff, Nat.reduceEqDiff, Nat.reduceBNe, Nat.ble_eq, UInt8.reduceToNat]
      exact hq
    · replace hb := hb.2 hge
      rw [hb]
      refine ⟨[.agg [.int .i64 5, .int .i64 0, .str key.b, .sl false 4 0 []]], rfl, value_NameOf_fe (r := ⟨5, 0, key, []⟩) rfl, ?_⟩
      simp -implicitDefEqProofs only [go_sem, start, startE, resVs, resV, resC, allV, retK, Nat.reduceBEq, Nat.reduceAdd, Nat.reduceMul, Nat.reduceLeDiff, Nat.reduceEqDiff, Nat.reduceBNe, Nat.ble_eq, UInt8.reduceToNat, hx, List.append_nil]
      refine ⟨by rw [flat_len, hx1]; rfl, ?_⟩
      refine insertV_row2 hx1 hrow hsub h2 (by intro e; subst e; simp at hx1) h3 ?_
      generalize vl.take k ++ xs ++ vl.drop k = L at hq
      simp -implicitDefEqProofs only [go_sem, start, startE, resVs, resV, resC, allV, retK, Nat.reduceBEq, Nat.reduceAdd, Nat.reduceMul, Nat.reduceLeDiff, Nat.reduceEqDiff, Nat.reduceBNe, Nat.ble_eq, UInt8.reduceToNat]
      exact hq
theorem value_Put_fe {v_0 x_2 : api_Value} {key_1 : Str} {s : Store} {r : api_Value} (h : value_Put v_0 key_1 x_2 = some r) : FE Go.Proofs.Try.prog 97 [.agg [.int .i64 v_0.Kind, .int .i64 v_0.N, .str v_0.S.b, .sl false 4 v_0.L.length (flat v_0.L)], .str key_1.b, .agg [.int .i64 x_2.Kind, .int .i64 x_2.N, .str x_2.S.b, .sl false 4 x_2.L.length (flat x_2.L)]] s [.agg [.int .i64 r.Kind, .int .i64 r.N, .str r.S.b, .sl false 4 r.L.length (flat r.L)]] s :=
  value_Put_fn ⟨r, h, rfl, rfl⟩

/-- catchword/value.Drop -/
def ir_value_Drop : IC :=
 (.seq (.reg none [i1 2 (.boxL 4 (.t 0)),
 i1 4 (.allocL [.int .i64 0, .int .i64 0, .str [], .sl true 4 0 []])] [1, 2, 4])
 (.seq (.reg none [i1 6 (.load 4 true (.t 2)),
 mv 7 1,
 i1 8 (.call 62 [(.t 6), (.t 7)]),
 mv 5 8] [2, 4, 5])
 (.seq (.seq (.reg none [mv 9 5,
 i1 10 (.bin .lss (.t 9) (.c (.int .i64 0)))] [2, 4, 5, 10])
 (.cond (.t 10) (.seq (.reg none [i1 11 (.load 4 true (.t 2)),
 i0 (.store 4 (.t 4) (.t 11))] [4])
 .ret)
 .skip))
 (.seq (.reg (some 10) [i1 12 (.fieldAddr 3 (.t 2)),
 i1 13 (.load 1 false (.t 12)),
 i1 14 (.call 64 [(.t 13)]),
 mv 15 5,
 mv 16 5,
 i1 17 (.bin .add (.t 16) (.c (.int .i64 2))),
 i1 18 (.fieldAddr 3 (.t 2)),
 i1 19 (.load 1 false (.t 18)),
 i1 20 (.len 0 (.t 19)),
 i1 21 (.minmax false [(.t 17), (.t 20)]),
 i1 22 (.callU 63 14 [(.t 14), (.t 15), (.t 21)]),
 i1 23 (.fieldAddr 3 (.t 2)),
 i0 (.store 1 (.t 23) (.t 22))] [2, 4])
 (.seq (.reg none [i1 24 (.load 4 true (.t 2)),
 i0 (.store 4 (.t 4) (.t 24))] [4])
 .ret)))))
def res_value_Drop : List IRes := [⟨4, false, some (4, true)⟩]
theorem is_value_Drop : fnIs Go.Proofs.Try.prog 24 25 res_value_Drop ir_value_Drop = true := by kernel_rfl


def value_Drop (v : api_Value) (key : Str) : Option api_Value :=
  bnd (value_find v key) fun i =>
  if decide (i < 0) then some v else
  need (0 ≤ i ∧ i < v.L.length ∧ v.L.length * 56 ≤ room) <|
  some ⟨v.Kind, v.N, v.S, v.L.take i.toNat ++ v.L.drop (min (i.toNat + 2) v.L.length)⟩
theorem value_Drop_fn {v : api_Value} {key : Str} {s : Store} {Q : List AV → Store → Prop} (h : ok (value_Drop v key) fun r => Q [.agg [.int .i64 r.Kind, .int .i64 r.N, .str r.S.b, .sl false 4 r.L.length (flat r.L)]] s) :
    FN Go.Proofs.Try.prog 24 [.agg [.int .i64 v.Kind, .int .i64 v.N, .str v.S.b, .sl false 4 v.L.length (flat v.L)], .str key.b] s Q := by
  obtain ⟨vk, vn, vs, vl⟩ := v
  refine FN.of (draw_ok mix) is_value_Drop rfl (Nat.le_of_ble_eq_true rfl) ?_
  unfold value_Drop at h
  rw [ok_bnd] at h
  obtain ⟨i, hfi, h⟩ := h
  rw [ok_ite, ok_need, ok_some, ok_some] at h
  rw [ir_value_Drop, res_value_Drop]
  simp -implicitDefEqProofs only [go_sem, start, startE, resVs, resV, resC, allV, retK, Nat.reduceBEq, Nat.reduceAdd, Nat.reduceMul, Nat.reduceLeDiff, Nat.reduceEqDiff, Nat.reduceBNe, Nat.ble_eq, UInt8.reduceToNat]
  refine FE.app (value_find_fe hfi) ?_
  simp -implicitDefEqProofs only [go_sem, start, startE, resVs, resV, resC, allV, retK, Nat.reduceBEq, Nat.reduceAdd, Nat.reduceMul, Nat.reduceLeDiff, Nat.reduceEqDiff, Nat.reduceBNe, Nat.ble_eq, UInt8.reduceToNat]
  refine ⟨fun hi => h.1 hi, fun hi => ?_⟩
  obtain ⟨⟨h1, h2, h3⟩, hq⟩ := h.2 hi
  obtain ⟨j, rfl⟩ : ∃ j : Nat, i = (j : Int) := ⟨i.toNat, by omega⟩
  replace h2 : j < vl.length := by have : (j : Int) < vl.length := h2; omega
  replace h3 : vl.length * 56 ≤ room := h3
  replace hq : Q [.agg [.int .i64 vk, .int .i64 vn, .str vs.b, .sl false 4 (vl.take j ++ vl.drop (min (j + 2) vl.length)).length (flat (vl.take j ++ vl.drop (min (j + 2) vl.length)))]] s := hq
  have hw2 : w64 ((j : Int) + 2) = ((j + 2 : Nat) : Int) := by unfold room at h3; rw [w64_id (by omega) (by omega)]; omega
  refine ⟨_, rfl, cloneV_us h3, ?_⟩
  simp -implicitDefEqProofs only [go_sem, start, startE, resVs, resV, resC, allV, retK, Nat.reduceBEq, Nat.reduceAdd, Nat.reduceMul, Nat.reduceLeDiff, Nat.reduceEqDiff, Nat.reduceBNe, Nat.ble_eq, UInt8.reduceToNat, hw2]
  refine ⟨fun b cap sp hb h0 hn hl hfl hvw => ?_, fun h0 => by omega⟩
  simp -implicitDefEqProofs only [go_sem, start, startE, resVs, resV, resC, allV, retK, Nat.reduceBEq, Nat.reduceAdd, Nat.reduceMul, Nat.reduceLeDiff, Nat.reduceEqDiff, Nat.reduceBNe, Nat.ble_eq, UInt8.reduceToNat]
  generalize hm : min (j + 2) vl.length = m at hq
  rw [show min ((j + 2 : Nat) : Int) (vl.length : Int) = (m : Int) by omega]
  have el : (vl.take j ++ vl.drop m).length = vl.length - (m - j) := by
    simp only [List.length_append, List.length_take, List.length_drop]; omega
  rw [el] at hq
  refine FN.row_sl (n := vl.length - (m - j)) (cs := flat (vl.take j ++ vl.drop m)) (s2 := s) (sz := 4) (by rw [flat_len, el]; rfl) (flat_views _) ?_ (deleteV_arr set_at hl hn (by omega) (by omega) (by unfold room at h3; omega) ?_)
  · generalize vl.take j ++ vl.drop m = L at hq
    simp -implicitDefEqProofs only [go_sem, start, startE, resVs, resV, resC, allV, retK, Nat.reduceBEq, Nat.reduceAdd, Nat.reduceMul, Nat.reduceLeDiff, Nat.reduceEqDiff, Nat.reduceBNe, Nat.ble_eq, UInt8.reduceToNat]
    exact hq
  · refine .inl ⟨b, cap, _, rfl, set_at, h0, by omega, ?_, ?_⟩
    · have hl' := hl
      rw [List.length_append, flat_len] at hl'
      rw [List.length_append, List.length_append, flat_len, flat_len, el, List.length_replicate]
      have hw : Enc.w api_Value = 4 := rfl
      rw [hw] at hl' ⊢
      omega
    · rw [set_set, del_set hb]; exact Sub.refl s
theorem value_Drop_fe {v_0 : api_Value} {key_1 : Str} {s : Store} {r : api_Value} (h : value_Drop v_0 key_1 = some r) : FE Go.Proofs.Try.prog 24 [.agg [.int .i64 v_0.Kind, .int .i64 v_0.N, .str v_0.S.b, .sl false 4 v_0.L.length (flat v_0.L)], .str key_1.b] s [.agg [.int .i64 r.Kind, .int .i64 r.N, .str r.S.b, .sl false 4 r.L.length (flat r.L)]] s :=
  value_Drop_fn ⟨r, h, rfl, rfl⟩

end Go.AB
end

section
namespace Go.AB
open Go

theorem iter_upto {S O : Type} {body : S → Option (S ⊕ O)} {s0 : S} {o : O} (n : Nat) (st : Nat → S) (h0 : st 0 = s0) (hn : n < 18446744073709551615) (hs : ∀ k, k < n → body (st k) = some (.inl (st (k + 1)))) (he : body (st n) = some (.inr o)) : iter body s0 = some o := by
  have key : ∀ j, j ≤ n → ∀ m, iterN body (m + 1 + j) (st (n - j)) = some o := by
    intro j
    induction j with
    | zero =>
      intro _ m
      show iterN body (m + 1) (st n) = some o
      unfold iterN
      rw [he]
    | succ j ih =>
      intro hj m
      show iterN body (m + 1 + j + 1) (st (n - (j + 1))) = some o
      unfold iterN
      rw [hs _ (by omega), show n - (j + 1) + 1 = n - j by omega]
      exact ih (by omega) m
  have := key n (Nat.le_refl n) (18446744073709551616 - 1 - n)
  rw [Nat.sub_self, h0, show 18446744073709551616 - 1 - n + 1 + n = 18446744073709551616 by omega] at this
  exact this

theorem iter_acc {A O : Type} {body : A × Int → Option ((A × Int) ⊕ O)} {a0 : A} {o : O} (n : Nat) (acc : Nat → A) (h0 : acc 0 = a0) (hn : n < 4611686018427387904) (hs : ∀ k, k < n → body (acc k, (k : Int)) = some (.inl (acc (k + 1), w64 ((k : Int) + 1)))) (he : body (acc n, (n : Int)) = some (.inr o)) : iter body (a0, 0) = some o :=
  iter_upto n (fun k => (acc k, (k : Int))) (by rw [h0]; rfl) (by omega) (fun k hk => by
    rw [hs k hk, w64_id (by omega) (by omega)]; rfl) he
theorem iter_cnt {O : Type} {body : Int → Option (Int ⊕ O)} {o : O} (n : Nat) (hn : n < 4611686018427387904) (hs : ∀ k, k < n → body (k : Int) = some (.inl (w64 ((k : Int) + 1)))) (he : body (n : Int) = some (.inr o)) : iter body 0 = some o :=
  iter_upto n (fun k => (k : Int)) rfl (by omega) (fun k hk => by
    rw [hs k hk, w64_id (by omega) (by omega)]; rfl) he
theorem jn_of {α β : Type} {o : Option α} {a : α} {K : α → Option β} {r : Option β} (h : o = some a) (k : K a = r) : jn o K = r := by rw [h]; exact k
theorem bnd_of {α β : Type} {o : Option α} {a : α} {K : α → Option β} {r : Option β} (h : o = some a) (k : K a = r) : bnd o K = r := by rw [h]; exact k
theorem jnS_of {X Y α : Type} {o : Option (X ⊕ Y)} {z : X ⊕ Y} {F : X → Option α} {G : Y → Option α} {r : Option α} (h : o = some z) (k : (match z with | .inl a => F a | .inr b => G b) = r) : jnS o F G = r := by
  rw [h]
  cases z <;> exact k
theorem bndS_of {X Y α : Type} {o : Option (X ⊕ Y)} {z : X ⊕ Y} {F : X → Option α} {G : Y → Option α} {r : Option α} (h : o = some z) (k : (match z with | .inl a => F a | .inr b => G b) = r) : bndS o F G = r := by
  rw [h]
  cases z <;> exact k
theorem need_of {α : Type} {c : Prop} [Decidable c] {o r : Option α} (h : c) (k : o = r) : need c o = r := by rw [need_pos h]; exact k
theorem if_of {α : Type} {c : Prop} [Decidable c] {a b r : α} (h : c) (k : a = r) : (if c then a else b) = r := by rw [if_pos h]; exact k
theorem if_not {α : Type} {c : Prop} [Decidable c] {a b r : α} (h : ¬ c) (k : b = r) : (if c then a else b) = r := by rw [if_neg h]; exact k
inductive Runs {S O : Type} (body : S → Option (S ⊕ O)) : Nat → S → O → Prop
  | stop {m : Nat} {s : S} {o : O} (h : body s = some (.inr o)) : Runs body (m + 1) s o
  | step {m : Nat} {s t : S} {o : O} (h : body s = some (.inl t)) (k : Runs body m t o) : Runs body (m + 1) s o
theorem Runs.iterN {S O : Type} {body : S → Option (S ⊕ O)} {m : Nat} {s : S} {o : O} (h : Runs body m s o) : ∀ n, m ≤ n → iterN body n s = some o := by
  induction h with
  | stop h =>
    intro n hn
    obtain ⟨k, rfl⟩ : ∃ k, n = k + 1 := ⟨n - 1, by omega⟩
    unfold AB.iterN; rw [h]
  | step h _ ih =>
    intro n hn
    obtain ⟨k, rfl⟩ : ∃ k, n = k + 1 := ⟨n - 1, by omega⟩
    unfold AB.iterN; rw [h]
    exact ih k (by omega)
theorem Runs.iter {S O : Type} {body : S → Option (S ⊕ O)} {m : Nat} {s : S} {o : O} (h : Runs body m s o) (hm : m ≤ 18446744073709551616) : iter body s = some o := h.iterN _ hm
end Go.AB
end

section
namespace Go.AB
open Go

/-- An own slice of plain cells that a call hands back: nobody else knows its row. -/
theorem FN.own_us {P : Program} {f : FuncId} {args : List AV} {s : Store} {Q : List AV → Store → Prop} {sz n : Nat} {cs : List AV} (hpl : cs.all plainR = true) (hnu : ∀ x, cs[0]? ≠ some (.int .u8 x)) (hsz : 0 < sz)
    (h : FE P f args noStore [.sl true sz n cs] noStore) (hq : Q [.us sz n cs] s) : FN P f args s Q := by
  intro G w vs h1 h2 h3 h4
  let G1 : Gh := ⟨G.R, fun i => if G.O i = .none then .none else .frame⟩
  have hO1 : ∀ i, G1.O i = .frame ∨ G1.O i = .none := fun i => by
    show (if G.O i = .none then Owner.none else Owner.frame) = _ ∨ _
    by_cases e : G.O i = .none <;> simp [e, G1]
  have hg1 : GoodW G1 w := ⟨fun i hi => by simp [G1, h1.newO i hi], fun i hi => h1.newR i hi⟩
  refine (h G1 w vs hg1 (fun i => (hO1 i).elim (fun e => .inr (.inl e)) .inl) (fun i o hi => by cases hi) h4).mono fun e w' ⟨v, rs, s', G', he, ⟨hrs, _⟩, hg', _, hr, hp⟩ => ?_
  subst hrs
  have hr' : VR w' G'.R (.sl true sz n cs) v ∧ OwnR G' w' (.res 0) (.sl true sz n cs) v := hr
  have same : ∀ i, i < w.heap.size → w'.heap[i]? = w.heap[i]? := fun i hi => hp.frame i hi (hO1 i)
  have hcell : ∀ i j, i < w.heap.size → w'.cell? ⟨i, j, none⟩ = w.cell? ⟨i, j, none⟩ := fun i j hi => World.cell?_of_block (same i hi)
  have hlt : ∀ i, G.O i ≠ .none → i < w.heap.size := fun i hi => h1.lt hi
  have old : ∀ i, i < w.heap.size → G'.O i ≠ .res 0 ∧ G'.R i = G.R i := fun i hi => by
    rcases hO1 i with e | e
    · obtain ⟨q1, q2⟩ := hp.frameO i hi e; exact ⟨by rw [q1]; simp, q2⟩
    · obtain ⟨q1, q2⟩ := hp.noneO i hi e; exact ⟨by rw [q1]; simp, q2⟩
  -- the ghosts behind, but for a new row
  have fin : ∀ (b : Nat), w.heap.size ≤ b → b < w'.heap.size → ∀ G2 : Gh, G2 = ⟨fun i => if i = b then 0 else G'.R i, fun i => if i < w.heap.size then G.O i else if i = b then .res 0 else .none⟩ →
      GoodW G2 w' ∧ StoreR G2 w' s ∧ Pres G w G2 w' := by
    intro b hb1 hb2 G2 hG2
    subst hG2
    have hpres : Pres G w ⟨fun i => if i = b then 0 else G'.R i, fun i => if i < w.heap.size then G.O i else if i = b then .res 0 else .none⟩ w' := by
      refine ⟨hp.os, hp.tape, hp.output, hp.drawn, hp.size, fun i hi => ?_, fun i j hi _ => hcell i j hi, fun i hi _ => same i hi, fun i hi ho => ?_, fun i hi ho => ?_⟩
      · show G.R i ≤ if i = b then 0 else G'.R i
        rw [if_neg (by omega), (old i hi).2]; exact Nat.le_refl _
      · refine ⟨?_, ?_⟩
        · show (if i < w.heap.size then G.O i else _) = _
          rw [if_pos hi]; exact ho
        · show (if i = b then 0 else G'.R i) = _
          rw [if_neg (by omega), (old i hi).2]
      · refine ⟨?_, ?_⟩
        · show (if i < w.heap.size then G.O i else _) = _
          rw [if_pos hi]; exact ho
        · show (if i = b then 0 else G'.R i) = _
          rw [if_neg (by omega), (old i hi).2]
    refine ⟨⟨fun i hi => ?_, fun i hi => ?_⟩, ?_, hpres⟩
    · have := hp.size
      show (if i < w.heap.size then G.O i else if i = b then .res 0 else .none) = _
      rw [if_neg (by omega), if_neg (by omega)]
    · show (if i = b then 0 else G'.R i) = 0
      rw [if_neg (by omega), hg'.newR i hi]
    · have hk : ∀ i, G.O i ≠ .none → (if i < w.heap.size then G.O i else if i = b then Owner.res 0 else Owner.none) = G.O i ∧ (if i = b then 0 else G'.R i) = G.R i ∧ w'.heap[i]? = w.heap[i]? := fun i hi => by
        have hi' := hlt i hi
        exact ⟨if_pos hi', by rw [if_neg (by omega), (old i hi').2], same i hi'⟩
      exact h3.mono h1 hpres (fun i hi => by
        obtain ⟨k1, k2, k3⟩ := hk i (by rw [hi]; simp)
        exact ⟨k1.trans hi, k2, k3⟩) (fun i c j _ hc => by
        obtain ⟨k1, k2, k3⟩ := hk c (by rw [hc]; simp)
        exact ⟨k1.trans hc, k2, k3⟩)
  -- nothing new: the first free place stands for the row
  have none_ : UsR ⟨G.R, G.O⟩ w' (.res 0) sz n cs v → ∃ v rs s' G'', e = .returned v ∧ Q rs s' ∧ GoodW G'' w' ∧ StoreR G'' w' s' ∧ ResR G'' w' rs v ∧ Pres G w G'' w' := by
    intro hu
    have hpres : Pres G w G w' := ⟨hp.os, hp.tape, hp.output, hp.drawn, hp.size, fun _ _ => Nat.le_refl _, fun i j hi _ => hcell i j hi, fun i hi _ => same i hi, fun i _ ho => ⟨ho, rfl⟩, fun i _ ho => ⟨ho, rfl⟩⟩
    refine ⟨v, _, s, G, he, hq, ⟨fun i hi => h1.newO i (Nat.le_trans hp.size hi), fun i hi => h1.newR i (Nat.le_trans hp.size hi)⟩, h3.mono h1 hpres (fun i hi => ⟨hi, rfl, same i (hlt i (by rw [hi]; simp))⟩) (fun i c j _ hc => ⟨hc, rfl, same c (hlt c (by rw [hc]; simp))⟩), hu, hpres⟩
  rcases VR.inv_sl hr'.1 with ⟨e0, rfl, rfl⟩ | ⟨b, off, cap, e1, hl, hR, hcap, hat⟩
  · exact none_ (.inl ⟨rfl, rfl, .inl e0.own⟩)
  · by_cases hc0 : cap = 0
    · subst hc0
      have hn : n = 0 := by omega
      subst hn
      have hcs : cs = [] := List.eq_nil_of_length_eq_zero (by rw [hl]; simp)
      subst hcs
      exact none_ (.inl ⟨rfl, rfl, .inr ⟨b, off, e1⟩⟩)
    · obtain ⟨b', off', c, t, fz, q1, q2, q3, q4, q5, _, _, rfl, hz, hone⟩ := hr'.2 _ _ _ e1 (by omega)
      injection q1 with q1; injection q1 with q1 q1' _
      subst q1; subst q1'
      have hz : fz = (0, 0) := by
        rcases hz with hz | ⟨hn0, x, hz⟩
        · exact hz
        · obtain ⟨u, u1, u2, _⟩ := hat
          have hlt : 0 < cs.length := by rw [hl]; exact Nat.mul_pos hn0 hsz
          have k1 := u1 0 _ (List.getElem?_eq_getElem hlt)
          rw [Nat.zero_add, cell_of_row w' q4, hz] at k1
          injection k1 with k1
          have k2 := u2 0 _ (List.getElem?_eq_getElem hlt)
          rw [← k1] at k2
          have hp0 := List.all_eq_true.1 hpl _ (List.getElem_mem hlt)
          cases hc : cs[0] with
          | int k y =>
            rw [hc] at k2
            have := VR.inv_int k2
            injection this with t1 t2
            exact absurd (by rw [List.getElem?_eq_getElem hlt, hc, ← t1]) (hnu y)
          | bool y => rw [hc] at k2; have := VR.inv_bool k2; cases this
          | str y => rw [hc] at k2; have := VR.inv_str k2; cases this
          | _ => rw [hc] at hp0; cases hp0
      subst hz
      have hb1 : w.heap.size ≤ b := by
        rcases Nat.lt_or_ge b w.heap.size with hb | hb
        · exact absurd q2 (old b hb).1
        · exact hb
      have hb2 : b < w'.heap.size := (Array.getElem?_eq_some_iff.1 q4).1
      obtain ⟨f1, f2, f3⟩ := fin b hb1 hb2 _ rfl
      refine ⟨v, _, s, _, he, hq, f1, f2, ?_, f3⟩
      obtain ⟨u, u1, u2, u3⟩ := hat
      have hle : cs.length ≤ cap * sz := by rw [hl]; exact Nat.mul_le_mul_right _ hcap
      refine .inr ⟨b, cap, c, t, List.replicate (cap * sz - cs.length) .one, by omega, hcap, e1, ?_, ?_, q4, by rw [q5, Nat.zero_add], hl, by rw [List.length_append, List.length_replicate]; omega, fun j x y hx hy => ?_, fun x hx => ?_, ?_⟩
      · show (if b < w.heap.size then G.O b else if b = b then .res 0 else .none) = _
        rw [if_neg (by omega), if_pos rfl]
      · show (if b = b then 0 else G'.R b) = 0
        rw [if_pos rfl]
      · rcases Nat.lt_or_ge j cs.length with hj | hj
        · rw [List.getElem?_append_left hj] at hx
          have k1 := u1 j x hx
          rw [Nat.zero_add, cell_of_row w' q4, hy] at k1
          injection k1 with k1
          rw [k1]
          exact plainR_vr (List.all_eq_true.1 hpl x (List.mem_of_getElem? hx)) (u2 j x hx)
        · rw [List.getElem?_append_right hj, List.getElem?_replicate] at hx
          split at hx
          · injection hx with hx; rw [← hx]; exact .one _ (hone j y (by rw [← hl]; omega) hy)
          · cases hx
      · rcases List.mem_append.1 hx with hx | hx
        · exact u3 x hx
        · rw [(List.mem_replicate.1 hx).2]; rfl
      · unfold views
        rw [List.map_append, List.map_replicate]
        congr 1
        have : ∀ l : List AV, l.all plainR = true → l.map view = l := fun l h => by
          induction l with
          | nil => rfl
          | cons a l ih =>
            rw [List.all_cons, Bool.and_eq_true] at h
            rw [List.map_cons, ih h.2]
            cases a <;> first | rfl | (cases h.1; done)
        exact this cs hpl
end Go.AB
end

section
set_option maxRecDepth 4000
namespace Go.AB
open Go
@[go_sem] theorem ble11 : Nat.ble 1 1 = true := rfl
@[go_sem] theorem ble12 : Nat.ble 1 2 = true := rfl
@[go_sem] theorem ble13 : Nat.ble 1 3 = true := rfl
@[go_sem] theorem ble14 : Nat.ble 1 4 = true := rfl
@[go_sem] theorem ble16 : Nat.ble 1 6 = true := rfl
@[go_sem] theorem part0_V (l : List api_Value) (hi : Int) : AB.sub (flat l) 0 (hi.toNat * 4) = flat (part l 0 hi) := by
  have := flat_part 4 l 0 hi rfl
  rw [Int.sub_zero] at this
  exact this
@[go_sem] theorem part0 {α : Type} [Enc α] (n : Nat) (l : List α) (hi : Int) (hn : n = Enc.w α) : AB.sub (flat l) 0 (hi.toNat * n) = flat (part l 0 hi) := by
  have := flat_part n l 0 hi hn
  rwa [Int.sub_zero, show ((0 : Int).toNat * n) = 0 from by simp] at this
theorem call_to_gv {β : Type} {g : Bool} {z : β} {o : Option β} {kf : β → Prop} {P : Program} {f : FuncId} {as2 : List AV} {s : Store} {enc : β → List AV} {Q : List AV → Prop} {C : FuncId → List AV → Prop}
    (ha : g = true → C f as2) (hok : fnOK P f = true) (hf : ∀ r, o = some r → FE P f as2 s (enc r) s) (hr : ∀ r, rsOK (enc r) = true) (hk : ∀ r, kf r → Q (enc r)) :
    ok (whenB g z o) kf → ∃ rs, rsOK rs = true ∧ (g = true → ∃ f as2, C f as2 ∧ fnOK P f = true ∧ FE P f as2 s rs s) ∧ Q rs := fun h => by
  rw [ok_when] at h
  obtain ⟨r, h1, _, k⟩ := h
  exact ⟨enc r, hr r, fun hg => ⟨f, as2, ha hg, hok, hf r (h1 hg)⟩, hk r k⟩
theorem callee_w {t : Nat} {args : List IX} {b : Bool} {σ : St} {f : FuncId} {as2 : List AV} (h : σ.x (.t t) = .when b (.fn f [] [])) (ha : argsV (xg b σ) args = some as2) : callee (.t t) args b σ f as2 :=
  ⟨[], [], as2, by unfold xg; rw [h]; cases b <;> rfl, ha, by simp⟩
@[go_sem] theorem ix_toNat {α : Type} [Enc α] (l : List α) (i : Int) : ix l ((i.toNat : Nat) : Int) = ix l i := rfl
@[go_sem] theorem pad_int_n (l : List Int) (n : Nat) : pad [.int .i64 0] (views (AB.sub (flat l) (n * 1) 1)) = [.int .i64 (ix l (n : Int))] := pad_int l n
theorem FN_cast {P : Program} {f : FuncId} {as1 as2 : List AV} {s : Store} {Q : List AV → Store → Prop} (e : as1 = as2) (h : FN P f as1 s Q) : FN P f as2 s Q := e ▸ h
theorem im_and {c p : Bool} {A : Prop} (h : p = true → A) : (c && p) = true → A := fun hh => h (by cases c <;> simp_all)
theorem lit_t {X A B : Prop} (h : X → A) : X → (true = true → A) ∧ (true = false → B) := fun x => ⟨fun _ => h x, fun e => (by cases e)⟩
theorem lit_f {X A B : Prop} (h : X → B) : X → (false = true → A) ∧ (false = false → B) := fun x => ⟨fun e => (by cases e), fun _ => h x⟩
theorem lit_t2 {X A B : Prop} (h : X → A) : X → (True → A) ∧ (true = false → B) := fun x => ⟨fun _ => h x, fun e => (by cases e)⟩
theorem lit_f2 {X A B : Prop} (h : X → B) : X → (false = true → A) ∧ (True → B) := fun x => ⟨fun e => (by cases e), fun _ => h x⟩
structure api_Span where
  From : Int
  To : Int
  deriving DecidableEq
instance : Enc api_Span := ⟨2, fun x => [.int .i64 x.From, .int .i64 x.To], (api_Span.mk 0 0), by decide, fun _ => rfl, fun _ => rfl⟩
@[go_sem] theorem cells_api_Span (x : api_Span) : Enc.cells x = [.int .i64 x.From, .int .i64 x.To] := rfl
@[go_sem] theorem w_api_Span : Enc.w api_Span = 2 := rfl
@[go_sem] theorem pad_api_Span (l : List api_Span) (i : Int) : pad [.int .i64 0, .int .i64 0] (views (AB.sub (flat l) (i.toNat * 2) 2)) = [.int .i64 ((ix l i).From), .int .i64 ((ix l i).To)] := by
  rw [← cells_api_Span]; exact flat_pad _ 2 l i (by rw [cells_api_Span]; rfl) rfl
@[go_sem] theorem mk_api_Span (x : api_Span) : api_Span.mk x.From x.To = x := by cases x; rfl
/-- catchword/span.empty -/
def span_empty (x_0 : api_Span) : Option (Bool) :=
  some ((decide (x_0.From < 0)) || (decide (x_0.To ≤ x_0.From)))
def ir_span_empty : IC :=
 (.seq (.reg none [i1 1 (.boxL 2 (.t 0)),
 i1 2 (.mov false (.c (.bool false)))] [1])
 (.seq (.reg none [i1 3 (.fieldAddr 0 (.t 1)),
 i1 4 (.load 1 false (.t 3)),
 i1 5 (.bin .lss (.t 4) (.c (.int .i64 0))),
 mv 6 5,
 i1g 7 6 false (.fieldAddr 1 (.t 1)),
 i1g 8 6 false (.load 1 false (.t 7)),
 i1g 9 6 false (.fieldAddr 0 (.t 1)),
 i1g 10 6 false (.load 1 false (.t 9)),
 i1g 11 6 false (.bin .leq (.t 8) (.t 10)),
 i1 12 (.pick (.t 6) (.c (.bool true)) (.t 11)),
 mv 2 12] [2])
 .ret))
def res_span_empty : List IRes := [⟨2, true, none⟩]
theorem is_span_empty : fnIs Go.Proofs.Try.prog 111 13 res_span_empty ir_span_empty = true := by kernel_rfl
theorem span_empty_fn {x_0} {s : Store} {Q : List AV → Store → Prop}  : ok (span_empty x_0) (fun r => Q [.bool r] s) → FN Go.Proofs.Try.prog 111 [.agg [.int .i64 x_0.From, .int .i64 x_0.To]] s Q := by
  intro h
  refine FN.of (draw_ok mix) is_span_empty rfl (Nat.le_of_ble_eq_true rfl) ?_
  revert h
  rw [ir_span_empty, res_span_empty, span_empty]
  repeat' (first
    | with_reducible exact tt_to
    | with_reducible refine and_to ?_ ?_
    | with_reducible exact im_and
    | with_reducible refine im_to ?_
    | simp -implicitDefEqProofs only [go_sem, start, startE, resVs, resV, resC, allV, retK, Nat.reduceBEq, Nat.reduceAdd, Nat.reduceMul, Nat.reduceLeDiff, Nat.reduceEqDiff, Nat.reduceBNe, Nat.ble_eq, UInt8.reduceToNat])
theorem span_empty_fe {x_0} {s : Store} {r : Bool}  (h : span_empty x_0 = some r) : FE Go.Proofs.Try.prog 111 [.agg [.int .i64 x_0.From, .int .i64 x_0.To]] s [.bool r] s := span_empty_fn   ⟨r, h, rfl, rfl⟩
/-- slices.IndexFunc[[]catchword/api.Span,catchword/api.Span] -/
def slices_IndexFuncapi_Span_api_Span (s_0 : (List api_Span)) : Option (Int) :=
  jnS (
    bndS (
      iter (fun (t2 : Int) =>
        if decide (t2 < (s_0.length : Int)) then
          need (0 ≤ t2 ∧ t2 < s_0.length) <|
          bnd (span_empty (ix s_0 t2)) fun r4 =>
          if r4 then
            some (.inr (.inr t2))
          else
            some (.inl (w64 (t2 + 1)))
        else
          some (.inr (.inl ()))) 0) (fun (_ : Unit) =>
      some (.inl ()))
    (fun (t3 : Int) => some (.inr t3))) (fun (_ : Unit) =>
    some (-1))
  (fun (t1 : Int) => some t1)
theorem fnok_111 : (fnOK Go.Proofs.Try.prog 111 = true) = True := eq_true (by kernel_rfl)
def ir_slices_IndexFuncapi_Span_api_Span : IC :=
 (.seq (.reg none [i1 4 (.mov false (.c (.int .i64 0)))] [0, 1])
 (.join [] (.seq (.reg none [mv 6 0,
 i1 7 (.len 0 (.t 6)),
 i1 8 (.mov false (.c (.int .i64 0)))] [0, 1, 7, 8])
 (.block 0 (.loop [(0, true), (1, false), (7, false), (8, false)] (.seq (.reg none [i1 9 (.bin .lss (.t 8) (.t 7))] [0, 1, 7, 8, 9])
 (.seq (.cond (.t 9) .skip
 (.exit 0))
 (.seq (.block 1 (.seq (.reg none [mv 10 8,
 mv 5 10] [0, 1, 5, 7, 8])
 (.seq (.reg none [mv 11 1,
 mv 12 0,
 mv 13 5,
 i1 14 (.indexAddr [.int .i64 0, .int .i64 0] (.t 12) (.t 13)),
 i1 15 (.load 2 true (.t 14)),
 i1 16 (.callv (.t 11) [(.t 15)])] [0, 1, 5, 7, 8, 16])
 (.cond (.t 16) (.seq (.reg none [mv 17 5,
 mv 4 17] [4])
 .ret)
 .skip))))
 (.reg none [i1 18 (.bin .add (.t 8) (.c (.int .i64 1))),
 mv 8 18] [0, 1, 7, 8])))))))
 (.seq (.reg none [i1 4 (.mov false (.c (.int .i64 (-1))))] [4])
 .ret)))
def res_slices_IndexFuncapi_Span_api_Span : List IRes := [⟨4, true, none⟩]
theorem is_slices_IndexFuncapi_Span_api_Span : fnIs Go.Proofs.Try.prog 126 19 res_slices_IndexFuncapi_Span_api_Span ir_slices_IndexFuncapi_Span_api_Span = true := by kernel_rfl
theorem slices_IndexFuncapi_Span_api_Span_fn {s_0} {s : Store} {Q : List AV → Store → Prop}  : ok (slices_IndexFuncapi_Span_api_Span s_0) (fun r => Q [.int .i64 r] s) → FN Go.Proofs.Try.prog 126 [.sl false 2 s_0.length (flat s_0), .fn 111 [] []] s Q := by
  intro h
  refine FN.of (draw_ok mix) is_slices_IndexFuncapi_Span_api_Span rfl (Nat.le_of_ble_eq_true rfl) ?_
  revert h
  rw [ir_slices_IndexFuncapi_Span_api_Span, res_slices_IndexFuncapi_Span_api_Span, slices_IndexFuncapi_Span_api_Span]
  repeat' (first
    | with_reducible exact tt_to
    | with_reducible refine and_to ?_ ?_
    | with_reducible exact im_and
    | with_reducible refine im_to ?_
    | with_reducible refine call_to (fun _ (h : span_empty (ix s_0 t2) = some _) => span_empty_fe h) (fun r4 => ?_)
    | with_reducible refine call_to_q (fun _ (h : span_empty (ix s_0 t2) = some _) => span_empty_fe h) (fun _ => rfl) (fun r4 => ?_)
    | with_reducible refine call_to (fun _ (h : span_empty (ix s_0 t2) = some _) => (by refine FE_cast ?_ (span_empty_fe h); simp -implicitDefEqProofs only [go_sem, start, startE, resVs, resV, resC, allV, retK, Nat.reduceBEq, Nat.reduceAdd, Nat.reduceMul, Nat.reduceLeDiff, Nat.reduceEqDiff, Nat.reduceBNe, Nat.ble_eq, UInt8.reduceToNat, fnok_111])) (fun r4 => ?_)
    | with_reducible refine call_to_q (fun _ (h : span_empty (ix s_0 t2) = some _) => (by refine FE_cast ?_ (span_empty_fe h); simp -implicitDefEqProofs only [go_sem, start, startE, resVs, resV, resC, allV, retK, Nat.reduceBEq, Nat.reduceAdd, Nat.reduceMul, Nat.reduceLeDiff, Nat.reduceEqDiff, Nat.reduceBNe, Nat.ble_eq, UInt8.reduceToNat, fnok_111])) (fun _ => rfl) (fun r4 => ?_)
    | ((with_reducible refine iter_to (fun (t2 : Int) => ⟨[(0, .sl false 2 s_0.length (flat s_0)), (1, .fn 111 [] []), (7, .int .i64 (s_0.length : Int)), (8, .int .i64 t2)], [], s⟩) ?_ ?_); (first | exact rfl | simp -implicitDefEqProofs only [go_sem, start, startE, resVs, resV, resC, allV, retK, Nat.reduceBEq, Nat.reduceAdd, Nat.reduceMul, Nat.reduceLeDiff, Nat.reduceEqDiff, Nat.reduceBNe, Nat.ble_eq, UInt8.reduceToNat, fnok_111]); rintro J t2)
    | ((with_reducible refine join_toS (fun (_ : Unit) => ⟨[], [], s⟩) (fun J => ?_) ?_); rotate_left; rintro _)
    | simp -implicitDefEqProofs only [go_sem, start, startE, resVs, resV, resC, allV, retK, Nat.reduceBEq, Nat.reduceAdd, Nat.reduceMul, Nat.reduceLeDiff, Nat.reduceEqDiff, Nat.reduceBNe, Nat.ble_eq, UInt8.reduceToNat, fnok_111])
theorem slices_IndexFuncapi_Span_api_Span_fe {s_0} {s : Store} {r : Int}  (h : slices_IndexFuncapi_Span_api_Span s_0 = some r) : FE Go.Proofs.Try.prog 126 [.sl false 2 s_0.length (flat s_0), .fn 111 [] []] s [.int .i64 r] s := slices_IndexFuncapi_Span_api_Span_fn   ⟨r, h, rfl, rfl⟩
/-- cmp.isNaN[int] -/
def cmp_isNaNint (x_0 : Int) : Option (Bool) :=
  some (x_0 != x_0)
def ir_cmp_isNaNint : IC :=
 (.seq (.reg none [i1 2 (.mov false (.c (.bool false)))] [0])
 (.seq (.reg none [mv 3 0,
 mv 4 0,
 i1 5 (.bin .neq (.t 3) (.t 4)),
 mv 2 5] [2])
 .ret))
def res_cmp_isNaNint : List IRes := [⟨2, true, none⟩]
theorem is_cmp_isNaNint : fnIs Go.Proofs.Try.prog 124 6 res_cmp_isNaNint ir_cmp_isNaNint = true := by kernel_rfl
theorem cmp_isNaNint_fn {x_0} {s : Store} {Q : List AV → Store → Prop}  : ok (cmp_isNaNint x_0) (fun r => Q [.bool r] s) → FN Go.Proofs.Try.prog 124 [.int .i64 x_0] s Q := by
  intro h
  refine FN.of (draw_ok mix) is_cmp_isNaNint rfl (Nat.le_of_ble_eq_true rfl) ?_
  revert h
  rw [ir_cmp_isNaNint, res_cmp_isNaNint, cmp_isNaNint]
  repeat' (first
    | with_reducible exact tt_to
    | with_reducible refine and_to ?_ ?_
    | with_reducible exact im_and
    | with_reducible refine im_to ?_
    | simp -implicitDefEqProofs only [go_sem, start, startE, resVs, resV, resC, allV, retK, Nat.reduceBEq, Nat.reduceAdd, Nat.reduceMul, Nat.reduceLeDiff, Nat.reduceEqDiff, Nat.reduceBNe, Nat.ble_eq, UInt8.reduceToNat])
theorem cmp_isNaNint_fe {x_0} {s : Store} {r : Bool}  (h : cmp_isNaNint x_0 = some r) : FE Go.Proofs.Try.prog 124 [.int .i64 x_0] s [.bool r] s := cmp_isNaNint_fn   ⟨r, h, rfl, rfl⟩
/-- cmp.Compare[int] -/
def cmp_Compareint (x_0 : Int) (y_1 : Int) : Option (Int) :=
  bnd (cmp_isNaNint x_0) fun r1 =>
  bnd (cmp_isNaNint y_1) fun r2 =>
  if r1 then
    if r2 then
      some 0
    else
      some (-1)
  else
    if r2 then
      some 1
    else
      if decide (x_0 < y_1) then
        some (-1)
      else
        if decide (x_0 > y_1) then
          some 1
        else
          some 0
def ir_cmp_Compareint : IC :=
 (.seq (.reg none [i1 4 (.mov false (.c (.int .i64 0)))] [0, 1])
 (.seq (.reg none [mv 7 0,
 i1 8 (.call 124 [(.t 7)]),
 mv 5 8] [0, 1, 5])
 (.seq (.reg none [mv 9 1,
 i1 10 (.call 124 [(.t 9)]),
 mv 6 10] [0, 1, 5, 6])
 (.seq (.seq (.reg none [mv 11 5] [0, 1, 6, 11])
 (.cond (.t 11) (.seq (.seq (.reg none [mv 12 6] [12])
 (.cond (.t 12) (.seq (.reg none [i1 4 (.mov false (.c (.int .i64 0)))] [4])
 .ret)
 .skip))
 (.seq (.reg none [i1 4 (.mov false (.c (.int .i64 (-1))))] [4])
 .ret))
 .skip))
 (.seq (.seq (.reg none [mv 13 6] [0, 1, 13])
 (.cond (.t 13) (.seq (.reg none [i1 4 (.mov false (.c (.int .i64 1)))] [4])
 .ret)
 .skip))
 (.seq (.seq (.reg none [mv 14 0,
 mv 15 1,
 i1 16 (.bin .lss (.t 14) (.t 15))] [0, 1, 16])
 (.cond (.t 16) (.seq (.reg none [i1 4 (.mov false (.c (.int .i64 (-1))))] [4])
 .ret)
 .skip))
 (.seq (.seq (.reg none [mv 17 0,
 mv 18 1,
 i1 19 (.bin .gtr (.t 17) (.t 18))] [19])
 (.cond (.t 19) (.seq (.reg none [i1 4 (.mov false (.c (.int .i64 1)))] [4])
 .ret)
 .skip))
 (.seq (.reg none [i1 4 (.mov false (.c (.int .i64 0)))] [4])
 .ret))))))))
def res_cmp_Compareint : List IRes := [⟨4, true, none⟩]
theorem is_cmp_Compareint : fnIs Go.Proofs.Try.prog 106 20 res_cmp_Compareint ir_cmp_Compareint = true := by kernel_rfl
theorem cmp_Compareint_fn {x_0 y_1} {s : Store} {Q : List AV → Store → Prop}  : ok (cmp_Compareint x_0 y_1) (fun r => Q [.int .i64 r] s) → FN Go.Proofs.Try.prog 106 [.int .i64 x_0, .int .i64 y_1] s Q := by
  intro h
  refine FN.of (draw_ok mix) is_cmp_Compareint rfl (Nat.le_of_ble_eq_true rfl) ?_
  revert h
  rw [ir_cmp_Compareint, res_cmp_Compareint, cmp_Compareint]
  repeat' (first
    | with_reducible exact tt_to
    | with_reducible refine and_to ?_ ?_
    | with_reducible exact im_and
    | with_reducible refine im_to ?_
    | with_reducible refine call_to (fun _ (h : cmp_isNaNint x_0 = some _) => cmp_isNaNint_fe h) (fun r1 => ?_)
    | with_reducible refine call_to_q (fun _ (h : cmp_isNaNint x_0 = some _) => cmp_isNaNint_fe h) (fun _ => rfl) (fun r1 => ?_)
    | with_reducible refine call_to (fun _ (h : cmp_isNaNint x_0 = some _) => (by refine FE_cast ?_ (cmp_isNaNint_fe h); simp -implicitDefEqProofs only [go_sem, start, startE, resVs, resV, resC, allV, retK, Nat.reduceBEq, Nat.reduceAdd, Nat.reduceMul, Nat.reduceLeDiff, Nat.reduceEqDiff, Nat.reduceBNe, Nat.ble_eq, UInt8.reduceToNat])) (fun r1 => ?_)
    | with_reducible refine call_to_q (fun _ (h : cmp_isNaNint x_0 = some _) => (by refine FE_cast ?_ (cmp_isNaNint_fe h); simp -implicitDefEqProofs only [go_sem, start, startE, resVs, resV, resC, allV, retK, Nat.reduceBEq, Nat.reduceAdd, Nat.reduceMul, Nat.reduceLeDiff, Nat.reduceEqDiff, Nat.reduceBNe, Nat.ble_eq, UInt8.reduceToNat])) (fun _ => rfl) (fun r1 => ?_)
    | with_reducible refine call_to (fun _ (h : cmp_isNaNint y_1 = some _) => cmp_isNaNint_fe h) (fun r2 => ?_)
    | with_reducible refine call_to_q (fun _ (h : cmp_isNaNint y_1 = some _) => cmp_isNaNint_fe h) (fun _ => rfl) (fun r2 => ?_)
    | with_reducible refine call_to (fun _ (h : cmp_isNaNint y_1 = some _) => (by refine FE_cast ?_ (cmp_isNaNint_fe h); simp -implicitDefEqProofs only [go_sem, start, startE, resVs, resV, resC, allV, retK, Nat.reduceBEq, Nat.reduceAdd, Nat.reduceMul, Nat.reduceLeDiff, Nat.reduceEqDiff, Nat.reduceBNe, Nat.ble_eq, UInt8.reduceToNat])) (fun r2 => ?_)
    | with_reducible refine call_to_q (fun _ (h : cmp_isNaNint y_1 = some _) => (by refine FE_cast ?_ (cmp_isNaNint_fe h); simp -implicitDefEqProofs only [go_sem, start, startE, resVs, resV, resC, allV, retK, Nat.reduceBEq, Nat.reduceAdd, Nat.reduceMul, Nat.reduceLeDiff, Nat.reduceEqDiff, Nat.reduceBNe, Nat.ble_eq, UInt8.reduceToNat])) (fun _ => rfl) (fun r2 => ?_)
    | simp -implicitDefEqProofs only [go_sem, start, startE, resVs, resV, resC, allV, retK, Nat.reduceBEq, Nat.reduceAdd, Nat.reduceMul, Nat.reduceLeDiff, Nat.reduceEqDiff, Nat.reduceBNe, Nat.ble_eq, UInt8.reduceToNat])
theorem cmp_Compareint_fe {x_0 y_1} {s : Store} {r : Int}  (h : cmp_Compareint x_0 y_1 = some r) : FE Go.Proofs.Try.prog 106 [.int .i64 x_0, .int .i64 y_1] s [.int .i64 r] s := cmp_Compareint_fn   ⟨r, h, rfl, rfl⟩
/-- cmp.Or[int] -/
def cmp_Orint (vals_0 : (List Int)) : Option (Int) :=
  jnS (
    bndS (
      iter (fun (t3 : Int) =>
        if decide (t3 < (vals_0.length : Int)) then
          need (0 ≤ t3 ∧ t3 < vals_0.length) <|
          if (ix vals_0 t3) != 0 then
            some (.inr (.inr (ix vals_0 t3)))
          else
            some (.inl (w64 (t3 + 1)))
        else
          some (.inr (.inl ()))) 0) (fun (_ : Unit) =>
      some (.inl ()))
    (fun (t5 : Int) => some (.inr t5))) (fun (_ : Unit) =>
    some 0)
  (fun (t2 : Int) => some t2)
def ir_cmp_Orint : IC :=
 (.seq (.reg none [i1 2 (.mov false (.c (.int .i64 0)))] [0])
 (.seq (.reg none [i1 3 (.mov false (.c (.int .i64 0)))] [0, 3])
 (.join [(3, false)] (.seq (.reg none [mt 6 0,
 i1 7 (.len 0 (.t 6)),
 i1 8 (.mov false (.c (.int .i64 0)))] [3, 6, 7, 8])
 (.block 0 (.loop [(3, false), (6, true), (7, false), (8, false)] (.seq (.reg none [i1 9 (.bin .lss (.t 8) (.t 7))] [3, 6, 7, 8, 9])
 (.seq (.cond (.t 9) .skip
 (.exit 0))
 (.seq (.block 1 (.seq (.reg none [i1 10 (.indexAddr [.int .i64 0] (.t 6) (.t 8)),
 i1 11 (.load 1 false (.t 10)),
 mv 5 11] [3, 5, 6, 7, 8])
 (.seq (.reg none [mv 12 5,
 mv 13 3,
 i1 14 (.bin .neq (.t 12) (.t 13))] [3, 5, 6, 7, 8, 14])
 (.cond (.t 14) (.seq (.reg none [mv 15 5,
 mv 2 15] [2])
 .ret)
 .skip))))
 (.reg none [i1 16 (.bin .add (.t 8) (.c (.int .i64 1))),
 mv 8 16] [3, 6, 7, 8])))))))
 (.seq (.reg none [mv 17 3,
 mv 2 17] [2])
 .ret))))
def res_cmp_Orint : List IRes := [⟨2, true, none⟩]
theorem is_cmp_Orint : fnIs Go.Proofs.Try.prog 105 18 res_cmp_Orint ir_cmp_Orint = true := by kernel_rfl
theorem cmp_Orint_fn {vals_0} {s : Store} {Q : List AV → Store → Prop}  : ok (cmp_Orint vals_0) (fun r => Q [.int .i64 r] s) → FN Go.Proofs.Try.prog 105 [.sl false 1 vals_0.length (flat vals_0)] s Q := by
  intro h
  refine FN.of (draw_ok mix) is_cmp_Orint rfl (Nat.le_of_ble_eq_true rfl) ?_
  revert h
  rw [ir_cmp_Orint, res_cmp_Orint, cmp_Orint]
  repeat' (first
    | with_reducible exact tt_to
    | with_reducible refine and_to ?_ ?_
    | with_reducible exact im_and
    | with_reducible refine im_to ?_
    | ((with_reducible refine iter_to (fun (t3 : Int) => ⟨[(3, .int .i64 0), (6, .sl false 1 vals_0.length (flat vals_0)), (7, .int .i64 (vals_0.length : Int)), (8, .int .i64 t3)], [], s⟩) ?_ ?_); (first | exact rfl | simp -implicitDefEqProofs only [go_sem, start, startE, resVs, resV, resC, allV, retK, Nat.reduceBEq, Nat.reduceAdd, Nat.reduceMul, Nat.reduceLeDiff, Nat.reduceEqDiff, Nat.reduceBNe, Nat.ble_eq, UInt8.reduceToNat]); rintro J t3)
    | ((with_reducible refine join_toS (fun (_ : Unit) => ⟨[(3, .int .i64 0)], [], s⟩) (fun J => ?_) ?_); rotate_left; rintro _)
    | simp -implicitDefEqProofs only [go_sem, start, startE, resVs, resV, resC, allV, retK, Nat.reduceBEq, Nat.reduceAdd, Nat.reduceMul, Nat.reduceLeDiff, Nat.reduceEqDiff, Nat.reduceBNe, Nat.ble_eq, UInt8.reduceToNat])
theorem cmp_Orint_fe {vals_0} {s : Store} {r : Int}  (h : cmp_Orint vals_0 = some r) : FE Go.Proofs.Try.prog 105 [.sl false 1 vals_0.length (flat vals_0)] s [.int .i64 r] s := cmp_Orint_fn   ⟨r, h, rfl, rfl⟩
/-- catchword/span.before -/
def span_before (a_0 : api_Span) (b_1 : api_Span) : Option (Int) :=
  bnd (cmp_Compareint a_0.From b_1.From) fun r1 =>
  bnd (cmp_Compareint a_0.To b_1.To) fun r2 =>
  bnd (cmp_Orint [r1, r2]) fun r3 =>
  some r3
def ir_span_before : IC :=
 (.seq (.reg none [i1 2 (.boxL 2 (.t 0)),
 i1 3 (.boxL 2 (.t 1)),
 i1 4 (.mov false (.c (.int .i64 0)))] [2, 3])
 (.seq (.reg (some 13) [i1 5 (.fieldAddr 0 (.t 2)),
 i1 6 (.load 1 false (.t 5)),
 i1 7 (.fieldAddr 0 (.t 3)),
 i1 8 (.load 1 false (.t 7)),
 i1 9 (.call 106 [(.t 6), (.t 8)]),
 i1 10 (.fieldAddr 1 (.t 2)),
 i1 11 (.load 1 false (.t 10)),
 i1 12 (.fieldAddr 1 (.t 3)),
 i1 13 (.load 1 false (.t 12)),
 i1 14 (.call 106 [(.t 11), (.t 13)]),
 i1 15 (.buildSl 1 2 [.int .i64 0, .int .i64 0] [(0, 1, (.t 9)), (1, 1, (.t 14))]),
 i1 16 (.call 105 [(.t 15)]),
 mv 4 16] [4])
 .ret))
def res_span_before : List IRes := [⟨4, true, none⟩]
theorem is_span_before : fnIs Go.Proofs.Try.prog 113 17 res_span_before ir_span_before = true := by kernel_rfl
theorem span_before_fn {a_0 b_1} {s : Store} {Q : List AV → Store → Prop}  : ok (span_before a_0 b_1) (fun r => Q [.int .i64 r] s) → FN Go.Proofs.Try.prog 113 [.agg [.int .i64 a_0.From, .int .i64 a_0.To], .agg [.int .i64 b_1.From, .int .i64 b_1.To]] s Q := by
  intro h
  refine FN.of (draw_ok mix) is_span_before rfl (Nat.le_of_ble_eq_true rfl) ?_
  revert h
  rw [ir_span_before, res_span_before, span_before]
  repeat' (first
    | with_reducible exact tt_to
    | with_reducible refine and_to ?_ ?_
    | with_reducible exact im_and
    | with_reducible refine im_to ?_
    | with_reducible refine call_to (fun _ (h : cmp_Compareint a_0.From b_1.From = some _) => cmp_Compareint_fe h) (fun r1 => ?_)
    | with_reducible refine call_to_q (fun _ (h : cmp_Compareint a_0.From b_1.From = some _) => cmp_Compareint_fe h) (fun _ => rfl) (fun r1 => ?_)
    | with_reducible refine call_to (fun _ (h : cmp_Compareint a_0.From b_1.From = some _) => (by refine FE_cast ?_ (cmp_Compareint_fe h); simp -implicitDefEqProofs only [go_sem, start, startE, resVs, resV, resC, allV, retK, Nat.reduceBEq, Nat.reduceAdd, Nat.reduceMul, Nat.reduceLeDiff, Nat.reduceEqDiff, Nat.reduceBNe, Nat.ble_eq, UInt8.reduceToNat])) (fun r1 => ?_)
    | with_reducible refine call_to_q (fun _ (h : cmp_Compareint a_0.From b_1.From = some _) => (by refine FE_cast ?_ (cmp_Compareint_fe h); simp -implicitDefEqProofs only [go_sem, start, startE, resVs, resV, resC, allV, retK, Nat.reduceBEq, Nat.reduceAdd, Nat.reduceMul, Nat.reduceLeDiff, Nat.reduceEqDiff, Nat.reduceBNe, Nat.ble_eq, UInt8.reduceToNat])) (fun _ => rfl) (fun r1 => ?_)
    | with_reducible refine call_to (fun _ (h : cmp_Compareint a_0.To b_1.To = some _) => cmp_Compareint_fe h) (fun r2 => ?_)
    | with_reducible refine call_to_q (fun _ (h : cmp_Compareint a_0.To b_1.To = some _) => cmp_Compareint_fe h) (fun _ => rfl) (fun r2 => ?_)
    | with_reducible refine call_to (fun _ (h : cmp_Compareint a_0.To b_1.To = some _) => (by refine FE_cast ?_ (cmp_Compareint_fe h); simp -implicitDefEqProofs only [go_sem, start, startE, resVs, resV, resC, allV, retK, Nat.reduceBEq, Nat.reduceAdd, Nat.reduceMul, Nat.reduceLeDiff, Nat.reduceEqDiff, Nat.reduceBNe, Nat.ble_eq, UInt8.reduceToNat])) (fun r2 => ?_)
    | with_reducible refine call_to_q (fun _ (h : cmp_Compareint a_0.To b_1.To = some _) => (by refine FE_cast ?_ (cmp_Compareint_fe h); simp -implicitDefEqProofs only [go_sem, start, startE, resVs, resV, resC, allV, retK, Nat.reduceBEq, Nat.reduceAdd, Nat.reduceMul, Nat.reduceLeDiff, Nat.reduceEqDiff, Nat.reduceBNe, Nat.ble_eq, UInt8.reduceToNat])) (fun _ => rfl) (fun r2 => ?_)
    | with_reducible refine call_to (fun _ (h : cmp_Orint [r1, r2] = some _) => cmp_Orint_fe h) (fun r3 => ?_)
    | with_reducible refine call_to_q (fun _ (h : cmp_Orint [r1, r2] = some _) => cmp_Orint_fe h) (fun _ => rfl) (fun r3 => ?_)
    | with_reducible refine call_to (fun _ (h : cmp_Orint [r1, r2] = some _) => (by refine FE_cast ?_ (cmp_Orint_fe h); simp -implicitDefEqProofs only [go_sem, start, startE, resVs, resV, resC, allV, retK, Nat.reduceBEq, Nat.reduceAdd, Nat.reduceMul, Nat.reduceLeDiff, Nat.reduceEqDiff, Nat.reduceBNe, Nat.ble_eq, UInt8.reduceToNat])) (fun r3 => ?_)
    | with_reducible refine call_to_q (fun _ (h : cmp_Orint [r1, r2] = some _) => (by refine FE_cast ?_ (cmp_Orint_fe h); simp -implicitDefEqProofs only [go_sem, start, startE, resVs, resV, resC, allV, retK, Nat.reduceBEq, Nat.reduceAdd, Nat.reduceMul, Nat.reduceLeDiff, Nat.reduceEqDiff, Nat.reduceBNe, Nat.ble_eq, UInt8.reduceToNat])) (fun _ => rfl) (fun r3 => ?_)
    | simp -implicitDefEqProofs only [go_sem, start, startE, resVs, resV, resC, allV, retK, Nat.reduceBEq, Nat.reduceAdd, Nat.reduceMul, Nat.reduceLeDiff, Nat.reduceEqDiff, Nat.reduceBNe, Nat.ble_eq, UInt8.reduceToNat])
theorem span_before_fe {a_0 b_1} {s : Store} {r : Int}  (h : span_before a_0 b_1 = some r) : FE Go.Proofs.Try.prog 113 [.agg [.int .i64 a_0.From, .int .i64 a_0.To], .agg [.int .i64 b_1.From, .int .i64 b_1.To]] s [.int .i64 r] s := span_before_fn   ⟨r, h, rfl, rfl⟩
/-- slices.Clone[[]catchword/api.Span,catchword/api.Span] -/
def ir_CloneSpn : IC :=
 (.seq (.reg none [i1 2 (.mov false (.c (.arr 0 0 0 0)))] [0])
 (.seq (.seq (.reg none [mv 3 0,
 i1 4 (.eqN false (.t 3))] [0, 4])
 (.cond (.t 4) (.seq (.reg none [i1 2 (.mov false (.c (.arr 0 0 0 0)))] [2])
 .ret)
 .skip))
 (.seq (.reg none [i1 5 (.buildSlA 2 0 [] []),
 mv 6 0,
 i1 7 (.appendA 2 16 [.int .i64 0, .int .i64 0] (.t 5) (.t 6)),
 mv 2 7] [2])
 .ret)))
def res_CloneSpn : List IRes := [⟨2, true, none⟩]
theorem is_CloneSpn : fnIs Go.Proofs.Try.prog 110 8 res_CloneSpn ir_CloneSpn = true := by kernel_rfl

def cloneSpnP (l : List api_Span) (s : Store) (rs : List AV) (s' : Store) : Prop := (∃ b cap sp, rs = [.arr b 0 l.length cap] ∧ s b = none ∧ 0 < cap ∧ l.length ≤ cap ∧ (flat l ++ sp).length = cap * 2 ∧ views (flat l ++ sp) = flat l ++ sp ∧ s' = s.set b (.cells (flat l ++ sp))) ∨ (l = [] ∧ s' = s ∧ ∃ b, rs = [.arr b 0 0 0])
theorem cloneSpn_arr {o : Bool} {l : List api_Span} {s : Store} (hr : l.length * 16 ≤ room) : FN Go.Proofs.Try.prog 110 [.sl o 2 l.length (flat l)] s (cloneSpnP l s) := by
  refine FN.weak (FN.of (draw_ok mix) is_CloneSpn rfl (Nat.le_of_ble_eq_true rfl) ?_)
  generalize hQ : (fun rs s' => ∃ s2, Sub s2 s' ∧ cloneSpnP l s rs s2) = Q
  have hq : ∀ rs s' s2, Sub s2 s' → cloneSpnP l s rs s2 → Q rs s' := fun rs s' s2 h1 h2 => by rw [← hQ]; exact ⟨s2, h1, h2⟩
  rw [ir_CloneSpn, res_CloneSpn]
  simp -implicitDefEqProofs only [go_sem, start, startE, resVs, resV, resC, allV, retK, Nat.reduceBEq, Nat.reduceAdd, Nat.reduceMul, Nat.reduceLeDiff, Nat.reduceEqDiff, Nat.reduceBNe, Nat.ble_eq, UInt8.reduceToNat]
  intro v hv
  refine ⟨fun h => hq _ _ s (Sub.refl s) (.inr ⟨List.eq_nil_of_length_eq_zero (hv (by simpa using h)), rfl, 0, rfl⟩), fun _ b1 hb1 => ?_⟩
  rw [srcV_sl, flat_views]
  by_cases hl : l = []
  · subst hl
    refine appendAW_zero rfl rfl (Nat.le_refl 0) ?_
    simp -implicitDefEqProofs only [go_sem, start, startE, resVs, resV, resC, allV, retK, Nat.reduceBEq, Nat.reduceAdd, Nat.reduceMul, Nat.reduceLeDiff, Nat.reduceEqDiff, Nat.reduceBNe, Nat.ble_eq, UInt8.reduceToNat]
    exact hq _ _ s ((Sub.refl s).set hb1) (.inr ⟨rfl, rfl, _, rfl⟩)
  · have hn : 0 < l.length := List.length_pos_iff.2 hl
    refine appendAW_new rfl rfl (by omega) (by rw [Nat.zero_add]; exact hr) fun b2 cap hb2 hcap => ?_
    rw [Nat.zero_add] at hcap
    have hz : (List.replicate (cap - (0 + l.length)) [.int .i64 0, .int .i64 0]).flatten = flat (List.replicate (cap - l.length) (api_Span.mk 0 0 : api_Span)) := by
      rw [flat_rep, Nat.zero_add]; rfl
    rw [hz]
    simp -implicitDefEqProofs only [go_sem, start, startE, resVs, resV, resC, allV, retK, Nat.reduceBEq, Nat.reduceAdd, Nat.reduceMul, Nat.reduceLeDiff, Nat.reduceEqDiff, Nat.reduceBNe, Nat.ble_eq, UInt8.reduceToNat, Nat.zero_add, List.nil_append]
    have hb2' : s b2 = none := ((Sub.refl s).set hb1).none hb2
    refine hq _ _ _ (Sub.set2 ((Sub.refl s).set hb1)) (.inl ⟨b2, cap, _, rfl, hb2', by omega, hcap, ?_, ?_, rfl⟩)
    · rw [List.length_append, flat_len, flat_len, List.length_replicate]
      show l.length * 2 + (cap - l.length) * 2 = cap * 2
      omega
    · rw [views_append, flat_views, flat_views]
theorem cloneSpn_sl {o : Bool} {l : List api_Span} {s : Store} (hr : l.length * 16 ≤ room) : FE Go.Proofs.Try.prog 110 [.sl o 2 l.length (flat l)] s [.sl true 2 l.length (flat l)] s :=
  FN.row_sl (flat_len l) (flat_views l) ⟨rfl, rfl⟩ ((cloneSpn_arr hr).mono fun rs s' h => by
    rcases h with ⟨b, cap, sp, h1, h2, h3, h4, h5, h6, h7⟩ | ⟨h1, h2, h3⟩
    · exact .inl ⟨b, cap, sp, h1, by rw [h7]; exact set_at, h3, h4, h5, by rw [h7, del_set h2]; exact Sub.refl s⟩
    · subst h1; exact .inr ⟨rfl, rfl, by rw [h2]; exact Sub.refl s, h3⟩)
theorem cloneSpn_us {o : Bool} {l : List api_Span} {s : Store} (hr : l.length * 16 ≤ room) : FE Go.Proofs.Try.prog 110 [.sl o 2 l.length (flat l)] s [.us 2 l.length (flat l)] s :=
  FN.row_us (flat_len l) ⟨rfl, rfl⟩ ((cloneSpn_arr hr).mono fun rs s' h => by
    rcases h with ⟨b, cap, sp, h1, h2, h3, h4, h5, h6, h7⟩ | ⟨h1, h2, h3⟩
    · exact .inl ⟨b, cap, sp, h1, by rw [h7]; exact set_at, h3, h4, h5, h6, by rw [h7, del_set h2]; exact Sub.refl s⟩
    · subst h1; exact .inr ⟨rfl, rfl, by rw [h2]; exact Sub.refl s, h3⟩)

/-- slices.DeleteFunc[[]catchword/api.Span,catchword/api.Span] -/
def ir_DelSpn : IC :=
 (.seq (.reg none [i1 4 (.mov false (.c (.arr 0 0 0 0)))] [0, 1])
 (.seq (.reg none [mv 8 0,
 mv 9 1,
 i1 10 (.call 126 [(.t 8), (.t 9)]),
 mv 5 10] [0, 1, 5])
 (.seq (.seq (.reg none [mv 11 5,
 i1 12 (.bin .eql (.t 11) (.c (.int .i64 (-1))))] [0, 1, 5, 12])
 (.cond (.t 12) (.seq (.reg none [mv 13 0,
 mv 4 13] [4])
 .ret)
 .skip))
 (.seq (.seq (.reg none [mv 14 5,
 i1 15 (.bin .add (.t 14) (.c (.int .i64 1))),
 mv 6 15] [0, 1, 5, 6])
 (.block 0 (.loop [(0, false), (1, false), (5, false), (6, false)] (.seq (.seq (.reg none [mv 16 6,
 mv 17 0,
 i1 18 (.len 0 (.t 17)),
 i1 19 (.bin .lss (.t 16) (.t 18))] [0, 1, 5, 6, 19])
 (.cond (.t 19) .skip
 (.exit 0)))
 (.seq (.block 1 (.seq (.reg none [mv 22 0,
 mv 23 6,
 i1 24 (.indexAddr [.int .i64 0, .int .i64 0] (.t 22) (.t 23)),
 i1 25 (.load 2 true (.t 24)),
 i1 7 (.allocL [.int .i64 0, .int .i64 0]),
 i0 (.store 2 (.t 7) (.t 25))] [0, 1, 5, 6, 7])
 (.seq (.reg none [mv 26 1,
 i1 27 (.load 2 true (.t 7)),
 i1 28 (.callv (.t 26) [(.t 27)]),
 i1 29 (.un .not (.t 28))] [0, 1, 5, 6, 7, 29])
 (.cond (.t 29) (.seq (.reg none [mv 30 0,
 mv 31 5,
 i1 32 (.load 2 true (.t 7)),
 i1 33 (.indexAddr [.int .i64 0, .int .i64 0] (.t 30) (.t 31)),
 i0 (.store 2 (.t 33) (.t 32))] [0, 1, 5, 6])
 (.reg none [mv 34 5,
 i1 35 (.bin .add (.t 34) (.c (.int .i64 1))),
 mv 5 35] [0, 1, 5, 6]))
 .skip))))
 (.reg none [mv 20 6,
 i1 21 (.bin .add (.t 20) (.c (.int .i64 1))),
 mv 6 21] [0, 1, 5, 6]))))))
 (.seq (.reg none [mv 36 0,
 mv 37 5,
 i1 38 (.slice 2 (.t 36) (some (.t 37)) none none),
 i0 (.clearA [.int .i64 0, .int .i64 0] (.t 38))] [0, 5])
 (.seq (.reg none [mv 39 0,
 mv 40 5,
 i1 41 (.slice 2 (.t 39) none (some (.t 40)) none),
 mv 4 41] [4])
 .ret))))))
def res_DelSpn : List IRes := [⟨4, true, none⟩]
theorem is_DelSpn : fnIs Go.Proofs.Try.prog 109 42 res_DelSpn ir_DelSpn = true := by kernel_rfl

end Go.AB
end

section
set_option maxRecDepth 4000
namespace Go.AB
open Go
/-- catchword/catchwordref35.next -/
def ref35_next (at_0 : Int) (l_1 : (List api_Span)) : Option (Int × Bool) :=
  jn (
    iter (fun ((best3, found4, k5) : Int × Bool × Int) =>
      if decide (k5 < (l_1.length : Int)) then
        jn (
          need (0 ≤ k5 ∧ k5 < l_1.length) <|
          need ((!(decide ((ix l_1 k5).From < 0))) = true → 0 ≤ k5 ∧ k5 < l_1.length) <|
          need ((!(decide ((ix l_1 k5).From < 0))) = true → 0 ≤ k5 ∧ k5 < l_1.length) <|
          if (decide ((ix l_1 k5).From < 0)) || (decide ((ix l_1 k5).To ≤ (ix l_1 k5).From)) then
            some (best3, found4)
          else
            jn (
              need (0 ≤ k5 ∧ k5 < l_1.length) <|
              need ((!!found4) = true → 0 ≤ k5 ∧ k5 < l_1.length) <|
              if (decide ((ix l_1 k5).From > at_0)) && (!found4 || (decide ((ix l_1 k5).From < best3))) then
                need (0 ≤ k5 ∧ k5 < l_1.length) <|
                some ((ix l_1 k5).From, true)
              else
                some (best3, found4)) fun ((best15, found16) : Int × Bool) =>
            need (0 ≤ k5 ∧ k5 < l_1.length) <|
            need ((!!found16) = true → 0 ≤ k5 ∧ k5 < l_1.length) <|
            if (decide ((ix l_1 k5).To > at_0)) && (!found16 || (decide ((ix l_1 k5).To < best15))) then
              need (0 ≤ k5 ∧ k5 < l_1.length) <|
              some ((ix l_1 k5).To, true)
            else
              some (best15, found16)) fun ((best10, found11) : Int × Bool) =>
        some (.inl (best10, found11, w64 (k5 + 1)))
      else
        some (.inr (best3, found4))) (0, false, 0)) fun ((best1, found2) : Int × Bool) =>
  some (best1, found2)
def ir_ref35_next : IC :=
 (.seq (.reg none [i1 4 (.mov false (.c (.int .i64 0))),
 i1 5 (.mov false (.c (.bool false)))] [0, 1])
 (.seq (.reg none [i1 6 (.mov false (.c (.int .i64 0))),
 i1 7 (.mov false (.c (.bool false)))] [0, 1, 6, 7])
 (.join [(6, false), (7, false)] (.seq (.reg none [i1 8 (.mov false (.c (.int .i64 0)))] [0, 1, 6, 7, 8])
 (.block 0 (.loop [(0, false), (1, true), (6, false), (7, false), (8, false)] (.seq (.seq (.reg none [mv 9 8,
 mv 10 1,
 i1 11 (.len 0 (.t 10)),
 i1 12 (.bin .lss (.t 9) (.t 11))] [0, 1, 6, 7, 8, 12])
 (.cond (.t 12) .skip
 (.exit 0)))
 (.join [(0, false), (1, true), (6, false), (7, false), (8, false)] (.block 1 (.seq (.seq (.reg (some 19) [mv 15 1,
 mv 16 8,
 i1 17 (.indexAddr [.int .i64 0, .int .i64 0] (.t 15) (.t 16)),
 i1 18 (.fieldAddr 0 (.t 17)),
 i1 19 (.load 1 false (.t 18)),
 i1 20 (.bin .lss (.t 19) (.c (.int .i64 0))),
 mv 21 20,
 mvg 22 1 21 false,
 mvg 23 8 21 false,
 i1g 24 21 false (.indexAddr [.int .i64 0, .int .i64 0] (.t 22) (.t 23)),
 i1g 25 21 false (.fieldAddr 1 (.t 24)),
 i1g 26 21 false (.load 1 false (.t 25)),
 mvg 27 1 21 false,
 mvg 28 8 21 false,
 i1g 29 21 false (.indexAddr [.int .i64 0, .int .i64 0] (.t 27) (.t 28)),
 i1g 30 21 false (.fieldAddr 0 (.t 29)),
 i1g 31 21 false (.load 1 false (.t 30)),
 i1g 32 21 false (.bin .leq (.t 26) (.t 31)),
 i1 33 (.pick (.t 21) (.c (.bool true)) (.t 32))] [0, 1, 6, 7, 8, 33])
 (.cond (.t 33) (.exit 1)
 .skip))
 (.join [(0, false), (1, true), (6, false), (7, false), (8, false)] (.seq (.reg none [mv 34 1,
 mv 35 8,
 i1 36 (.indexAddr [.int .i64 0, .int .i64 0] (.t 34) (.t 35)),
 i1 37 (.fieldAddr 0 (.t 36)),
 i1 38 (.load 1 false (.t 37)),
 mv 39 0,
 i1 40 (.bin .gtr (.t 38) (.t 39)),
 mv 41 40,
 mvg 42 7 41 true,
 i1g 43 41 true (.un .not (.t 42)),
 mvg 44 43 41 true,
 mvg 45 1 44 false,
 mvg 46 8 44 false,
 i1g 47 44 false (.indexAddr [.int .i64 0, .int .i64 0] (.t 45) (.t 46)),
 i1g 48 44 false (.fieldAddr 0 (.t 47)),
 i1g 49 44 false (.load 1 false (.t 48)),
 mvg 50 6 44 false,
 i1g 51 44 false (.bin .lss (.t 49) (.t 50)),
 i1g 52 41 true (.pick (.t 44) (.c (.bool true)) (.t 51)),
 i1 53 (.pick (.t 41) (.t 52) (.c (.bool false)))] [0, 1, 6, 7, 8, 53])
 (.cond (.t 53) (.reg none [mv 54 1,
 mv 55 8,
 i1 56 (.indexAddr [.int .i64 0, .int .i64 0] (.t 54) (.t 55)),
 i1 57 (.fieldAddr 0 (.t 56)),
 i1 58 (.load 1 false (.t 57)),
 mv 6 58,
 i1 7 (.mov false (.c (.bool true)))] [0, 1, 6, 7, 8])
 .skip))
 (.seq (.reg none [mv 59 1,
 mv 60 8,
 i1 61 (.indexAddr [.int .i64 0, .int .i64 0] (.t 59) (.t 60)),
 i1 62 (.fieldAddr 1 (.t 61)),
 i1 63 (.load 1 false (.t 62)),
 mv 64 0,
 i1 65 (.bin .gtr (.t 63) (.t 64)),
 mv 66 65,
 mvg 67 7 66 true,
 i1g 68 66 true (.un .not (.t 67)),
 mvg 69 68 66 true,
 mvg 70 1 69 false,
 mvg 71 8 69 false,
 i1g 72 69 false (.indexAddr [.int .i64 0, .int .i64 0] (.t 70) (.t 71)),
 i1g 73 69 false (.fieldAddr 1 (.t 72)),
 i1g 74 69 false (.load 1 false (.t 73)),
 mvg 75 6 69 false,
 i1g 76 69 false (.bin .lss (.t 74) (.t 75)),
 i1g 77 66 true (.pick (.t 69) (.c (.bool true)) (.t 76)),
 i1 78 (.pick (.t 66) (.t 77) (.c (.bool false)))] [0, 1, 6, 7, 8, 78])
 (.cond (.t 78) (.reg none [mv 79 1,
 mv 80 8,
 i1 81 (.indexAddr [.int .i64 0, .int .i64 0] (.t 79) (.t 80)),
 i1 82 (.fieldAddr 1 (.t 81)),
 i1 83 (.load 1 false (.t 82)),
 mv 6 83,
 i1 7 (.mov false (.c (.bool true)))] [0, 1, 6, 7, 8])
 .skip)))))
 (.reg none [mv 13 8,
 i1 14 (.bin .add (.t 13) (.c (.int .i64 1))),
 mv 8 14] [0, 1, 6, 7, 8]))))))
 (.seq (.reg none [mv 84 6,
 mv 85 7,
 mv 4 84,
 mv 5 85] [4, 5])
 .ret))))
def res_ref35_next : List IRes := [⟨4, true, none⟩, ⟨5, true, none⟩]
theorem is_ref35_next : fnIs Go.Proofs.Try.prog 114 86 res_ref35_next ir_ref35_next = true := by kernel_rfl
theorem ref35_next_fn {at_0 l_1} {s : Store} {Q : List AV → Store → Prop}  : ok (ref35_next at_0 l_1) (fun r => Q [.int .i64 r.1, .bool r.2] s) → FN Go.Proofs.Try.prog 114 [.int .i64 at_0, .sl false 2 l_1.length (flat l_1)] s Q := by
  intro h
  refine FN.of (draw_ok mix) is_ref35_next rfl (Nat.le_of_ble_eq_true rfl) ?_
  revert h
  rw [ir_ref35_next, res_ref35_next, ref35_next]
  repeat' (first
    | with_reducible exact tt_to
    | with_reducible refine and_to ?_ ?_
    | with_reducible exact im_and
    | with_reducible refine im_to ?_
    | ((with_reducible refine join_to (fun ((best15, found16) : Int × Bool) => ⟨[(0, .int .i64 at_0), (1, .sl false 2 l_1.length (flat l_1)), (6, .int .i64 best15), (7, .bool found16), (8, .int .i64 k5)], [], s⟩) (fun J => ?_) ?_); rotate_left; rintro ⟨best15, found16⟩)
    | ((with_reducible refine join_to (fun ((best10, found11) : Int × Bool) => ⟨[(0, .int .i64 at_0), (1, .sl false 2 l_1.length (flat l_1)), (6, .int .i64 best10), (7, .bool found11), (8, .int .i64 k5)], [], s⟩) (fun J => ?_) ?_); rotate_left; rintro ⟨best10, found11⟩)
    | ((with_reducible refine iter_to (fun ((best3, found4, k5) : Int × Bool × Int) => ⟨[(0, .int .i64 at_0), (1, .sl false 2 l_1.length (flat l_1)), (6, .int .i64 best3), (7, .bool found4), (8, .int .i64 k5)], [], s⟩) ?_ ?_); (first | exact rfl | simp -implicitDefEqProofs only [go_sem, start, startE, resVs, resV, resC, allV, retK, Nat.reduceBEq, Nat.reduceAdd, Nat.reduceMul, Nat.reduceLeDiff, Nat.reduceEqDiff, Nat.reduceBNe, Nat.ble_eq, UInt8.reduceToNat]); rintro J ⟨best3, found4, k5⟩)
    | ((with_reducible refine join_to (fun ((best1, found2) : Int × Bool) => ⟨[(6, .int .i64 best1), (7, .bool found2)], [], s⟩) (fun J => ?_) ?_); rotate_left; rintro ⟨best1, found2⟩)
    | simp -implicitDefEqProofs only [go_sem, start, startE, resVs, resV, resC, allV, retK, Nat.reduceBEq, Nat.reduceAdd, Nat.reduceMul, Nat.reduceLeDiff, Nat.reduceEqDiff, Nat.reduceBNe, Nat.ble_eq, UInt8.reduceToNat])
theorem ref35_next_fe {at_0 l_1} {s : Store} {r : Int × Bool}  (h : ref35_next at_0 l_1 = some r) : FE Go.Proofs.Try.prog 114 [.int .i64 at_0, .sl false 2 l_1.length (flat l_1)] s [.int .i64 r.1, .bool r.2] s := ref35_next_fn   ⟨r, h, rfl, rfl⟩
/-- catchword/catchwordref35.within -/
def ref35_within (at_0 : Int) (x_1 : api_Span) : Option (Bool) :=
  some (((decide (x_1.From ≥ 0)) && (decide (at_0 ≥ x_1.From))) && (decide (at_0 < x_1.To)))
def ir_ref35_within : IC :=
 (.seq (.reg none [i1 3 (.boxL 2 (.t 1)),
 i1 4 (.mov false (.c (.bool false)))] [0, 3])
 (.seq (.reg none [i1 5 (.fieldAddr 0 (.t 3)),
 i1 6 (.load 1 false (.t 5)),
 i1 7 (.bin .geq (.t 6) (.c (.int .i64 0))),
 mv 8 7,
 mvg 9 0 8 true,
 i1g 10 8 true (.fieldAddr 0 (.t 3)),
 i1g 11 8 true (.load 1 false (.t 10)),
 i1g 12 8 true (.bin .geq (.t 9) (.t 11)),
 i1 13 (.pick (.t 8) (.t 12) (.c (.bool false))),
 mv 14 13,
 mvg 15 0 14 true,
 i1g 16 14 true (.fieldAddr 1 (.t 3)),
 i1g 17 14 true (.load 1 false (.t 16)),
 i1g 18 14 true (.bin .lss (.t 15) (.t 17)),
 i1 19 (.pick (.t 14) (.t 18) (.c (.bool false))),
 mv 4 19] [4])
 .ret))
def res_ref35_within : List IRes := [⟨4, true, none⟩]
theorem is_ref35_within : fnIs Go.Proofs.Try.prog 129 20 res_ref35_within ir_ref35_within = true := by kernel_rfl
theorem ref35_within_fn {at_0 x_1} {s : Store} {Q : List AV → Store → Prop}  : ok (ref35_within at_0 x_1) (fun r => Q [.bool r] s) → FN Go.Proofs.Try.prog 129 [.int .i64 at_0, .agg [.int .i64 x_1.From, .int .i64 x_1.To]] s Q := by
  intro h
  refine FN.of (draw_ok mix) is_ref35_within rfl (Nat.le_of_ble_eq_true rfl) ?_
  revert h
  rw [ir_ref35_within, res_ref35_within, ref35_within]
  repeat' (first
    | with_reducible exact tt_to
    | with_reducible refine and_to ?_ ?_
    | with_reducible exact im_and
    | with_reducible refine im_to ?_
    | simp -implicitDefEqProofs only [go_sem, start, startE, resVs, resV, resC, allV, retK, Nat.reduceBEq, Nat.reduceAdd, Nat.reduceMul, Nat.reduceLeDiff, Nat.reduceEqDiff, Nat.reduceBNe, Nat.ble_eq, UInt8.reduceToNat])
theorem ref35_within_fe {at_0 x_1} {s : Store} {r : Bool}  (h : ref35_within at_0 x_1 = some r) : FE Go.Proofs.Try.prog 129 [.int .i64 at_0, .agg [.int .i64 x_1.From, .int .i64 x_1.To]] s [.bool r] s := ref35_within_fn   ⟨r, h, rfl, rfl⟩
/-- catchword/catchwordref35.some -/
def ref35_some (at_0 : Int) (l_1 : (List api_Span)) : Option (Bool) :=
  jnS (
    bndS (
      iter (fun (k2 : Int) =>
        if decide (k2 < (l_1.length : Int)) then
          need (0 ≤ k2 ∧ k2 < l_1.length) <|
          bnd (ref35_within at_0 (ix l_1 k2)) fun r4 =>
          if r4 then
            some (.inr (.inr true))
          else
            some (.inl (w64 (k2 + 1)))
        else
          some (.inr (.inl ()))) 0) (fun (_ : Unit) =>
      some (.inl ()))
    (fun (t3 : Bool) => some (.inr t3))) (fun (_ : Unit) =>
    some false)
  (fun (t1 : Bool) => some t1)
def ir_ref35_some : IC :=
 (.seq (.reg none [i1 4 (.mov false (.c (.bool false)))] [0, 1])
 (.join [] (.seq (.reg none [i1 5 (.mov false (.c (.int .i64 0)))] [0, 1, 5])
 (.block 0 (.loop [(0, false), (1, true), (5, false)] (.seq (.seq (.reg none [mv 6 5,
 mv 7 1,
 i1 8 (.len 0 (.t 7)),
 i1 9 (.bin .lss (.t 6) (.t 8))] [0, 1, 5, 9])
 (.cond (.t 9) .skip
 (.exit 0)))
 (.seq (.block 1 (.seq (.reg none [mv 12 0,
 mv 13 1,
 mv 14 5,
 i1 15 (.indexAddr [.int .i64 0, .int .i64 0] (.t 13) (.t 14)),
 i1 16 (.load 2 true (.t 15)),
 i1 17 (.call 129 [(.t 12), (.t 16)])] [0, 1, 5, 17])
 (.cond (.t 17) (.seq (.reg none [i1 4 (.mov false (.c (.bool true)))] [4])
 .ret)
 .skip)))
 (.reg none [mv 10 5,
 i1 11 (.bin .add (.t 10) (.c (.int .i64 1))),
 mv 5 11] [0, 1, 5]))))))
 (.seq (.reg none [i1 4 (.mov false (.c (.bool false)))] [4])
 .ret)))
def res_ref35_some : List IRes := [⟨4, true, none⟩]
theorem is_ref35_some : fnIs Go.Proofs.Try.prog 115 18 res_ref35_some ir_ref35_some = true := by kernel_rfl
theorem ref35_some_fn {at_0 l_1} {s : Store} {Q : List AV → Store → Prop}  : ok (ref35_some at_0 l_1) (fun r => Q [.bool r] s) → FN Go.Proofs.Try.prog 115 [.int .i64 at_0, .sl false 2 l_1.length (flat l_1)] s Q := by
  intro h
  refine FN.of (draw_ok mix) is_ref35_some rfl (Nat.le_of_ble_eq_true rfl) ?_
  revert h
  rw [ir_ref35_some, res_ref35_some, ref35_some]
  repeat' (first
    | with_reducible exact tt_to
    | with_reducible refine and_to ?_ ?_
    | with_reducible exact im_and
    | with_reducible refine im_to ?_
    | with_reducible refine call_to (fun _ (h : ref35_within at_0 (ix l_1 k2) = some _) => ref35_within_fe h) (fun r4 => ?_)
    | with_reducible refine call_to_q (fun _ (h : ref35_within at_0 (ix l_1 k2) = some _) => ref35_within_fe h) (fun _ => rfl) (fun r4 => ?_)
    | with_reducible refine call_to (fun _ (h : ref35_within at_0 (ix l_1 k2) = some _) => (by refine FE_cast ?_ (ref35_within_fe h); simp -implicitDefEqProofs only [go_sem, start, startE, resVs, resV, resC, allV, retK, Nat.reduceBEq, Nat.reduceAdd, Nat.reduceMul, Nat.reduceLeDiff, Nat.reduceEqDiff, Nat.reduceBNe, Nat.ble_eq, UInt8.reduceToNat])) (fun r4 => ?_)
    | with_reducible refine call_to_q (fun _ (h : ref35_within at_0 (ix l_1 k2) = some _) => (by refine FE_cast ?_ (ref35_within_fe h); simp -implicitDefEqProofs only [go_sem, start, startE, resVs, resV, resC, allV, retK, Nat.reduceBEq, Nat.reduceAdd, Nat.reduceMul, Nat.reduceLeDiff, Nat.reduceEqDiff, Nat.reduceBNe, Nat.ble_eq, UInt8.reduceToNat])) (fun _ => rfl) (fun r4 => ?_)
    | ((with_reducible refine iter_to (fun (k2 : Int) => ⟨[(0, .int .i64 at_0), (1, .sl false 2 l_1.length (flat l_1)), (5, .int .i64 k2)], [], s⟩) ?_ ?_); (first | exact rfl | simp -implicitDefEqProofs only [go_sem, start, startE, resVs, resV, resC, allV, retK, Nat.reduceBEq, Nat.reduceAdd, Nat.reduceMul, Nat.reduceLeDiff, Nat.reduceEqDiff, Nat.reduceBNe, Nat.ble_eq, UInt8.reduceToNat]); rintro J k2)
    | ((with_reducible refine join_toS (fun (_ : Unit) => ⟨[], [], s⟩) (fun J => ?_) ?_); rotate_left; rintro _)
    | simp -implicitDefEqProofs only [go_sem, start, startE, resVs, resV, resC, allV, retK, Nat.reduceBEq, Nat.reduceAdd, Nat.reduceMul, Nat.reduceLeDiff, Nat.reduceEqDiff, Nat.reduceBNe, Nat.ble_eq, UInt8.reduceToNat])
theorem ref35_some_fe {at_0 l_1} {s : Store} {r : Bool}  (h : ref35_some at_0 l_1 = some r) : FE Go.Proofs.Try.prog 115 [.int .i64 at_0, .sl false 2 l_1.length (flat l_1)] s [.bool r] s := ref35_some_fn   ⟨r, h, rfl, rfl⟩
end Go.AB
end

section
namespace Go.AB
open Go

def spIn (p : Int) (x : api_Span) : Prop := x.From ≤ p ∧ p < x.To
def spMem (p : Int) (l : List api_Span) : Prop := ∃ x ∈ l, spIn p x
/-- In form: spans that are not empty, in order, with a gap between any two. -/
def Form (l : List api_Span) : Prop := (∀ x ∈ l, 0 ≤ x.From ∧ x.From < x.To) ∧ l.Pairwise fun x y => x.To < y.From
theorem Form.tail {x : api_Span} {l : List api_Span} (h : Form (x :: l)) : Form l := ⟨fun y hy => h.1 y (List.mem_cons_of_mem _ hy), (List.pairwise_cons.1 h.2).2⟩
theorem Form.head_le {x : api_Span} {l : List api_Span} (h : Form (x :: l)) {p : Int} (hp : spMem p (x :: l)) : x.From ≤ p := by
  obtain ⟨y, hy, h1⟩ := hp
  rcases List.mem_cons.1 hy with rfl | hy
  · exact h1.1
  · have := (List.pairwise_cons.1 h.2).1 y hy
    have := (h.1 x List.mem_cons_self).2
    have := h1.1
    omega
/-- The numbers tell the row. -/
theorem Form.unique : ∀ {l m : List api_Span}, Form l → Form m → (∀ p, spMem p l ↔ spMem p m) → l = m
  | [], [], _, _, _ => rfl
  | [], y :: m, _, hm, h => by
    obtain ⟨_, hx, _⟩ := (h y.From).2 ⟨y, List.mem_cons_self, Int.le_refl _, (hm.1 y List.mem_cons_self).2⟩
    cases hx
  | x :: l, [], hl, _, h => by
    obtain ⟨_, hx, _⟩ := (h x.From).1 ⟨x, List.mem_cons_self, Int.le_refl _, (hl.1 x List.mem_cons_self).2⟩
    cases hx
  | x :: l, y :: m, hl, hm, h => by
    have hx := hl.1 x List.mem_cons_self
    have hy := hm.1 y List.mem_cons_self
    have e1 : x.From = y.From := by
      have h1 := hm.head_le ((h x.From).1 ⟨x, List.mem_cons_self, Int.le_refl _, hx.2⟩)
      have h2 := hl.head_le ((h y.From).2 ⟨y, List.mem_cons_self, Int.le_refl _, hy.2⟩)
      omega
    have out : ∀ {a : api_Span} {k : List api_Span}, Form (a :: k) → ¬ spMem a.To (a :: k) := fun {a k} hf hmem => by
      obtain ⟨z, hz, h1⟩ := hmem
      rcases List.mem_cons.1 hz with rfl | hz
      · have := h1.2; omega
      · have := (List.pairwise_cons.1 hf.2).1 z hz
        have := h1.1; omega
    have e2 : x.To = y.To := by
      rcases Int.lt_trichotomy x.To y.To with hlt | he | hgt
      · exact (out hl ((h x.To).2 ⟨y, List.mem_cons_self, by have := hx.2; omega, hlt⟩)).elim
      · exact he
      · exact (out hm ((h y.To).1 ⟨x, List.mem_cons_self, by have := hy.2; omega, hgt⟩)).elim
    have exy : x = y := by
      obtain ⟨a, b⟩ := x; obtain ⟨c, d⟩ := y
      simp only at e1 e2
      rw [e1, e2]
    subst exy
    have rest : ∀ p, spMem p l ↔ spMem p m := fun p => by
      have low : ∀ {k : List api_Span}, Form (x :: k) → ∀ z ∈ k, x.To < z.From := fun hf z hz => (List.pairwise_cons.1 hf.2).1 z hz
      constructor
      · rintro ⟨z, hz, h1⟩
        obtain ⟨z', hz', h2⟩ := (h p).1 ⟨z, List.mem_cons_of_mem _ hz, h1⟩
        rcases List.mem_cons.1 hz' with rfl | hz'
        · have := low hl z hz
          have := h1.1; have := h2.2; omega
        · exact ⟨z', hz', h2⟩
      · rintro ⟨z, hz, h1⟩
        obtain ⟨z', hz', h2⟩ := (h p).2 ⟨z, List.mem_cons_of_mem _ hz, h1⟩
        rcases List.mem_cons.1 hz' with rfl | hz'
        · have := low hm z hz
          have := h1.1; have := h2.2; omega
        · exact ⟨z', hz', h2⟩
    rw [Form.unique hl.tail hm.tail rest]

def joinStep (gap : Int) (out : List api_Span) (x : api_Span) : List api_Span := match out.getLast? with
  | none => [x]
  | some y => if w64 (x.From - y.To) ≤ gap then out.dropLast ++ [⟨y.From, max y.To x.To⟩] else out ++ [x]
def joinL (gap : Int) (l : List api_Span) : List api_Span := l.foldl (joinStep gap) []
def leS (x y : api_Span) : Prop := x.From < y.From ∨ (x.From = y.From ∧ x.To ≤ y.To)
/-- In order. -/
def Asc (l : List api_Span) : Prop := l.Pairwise leS
theorem joinStep_snoc (gap : Int) (O : List api_Span) (y x : api_Span) : joinStep gap (O ++ [y]) x = if w64 (x.From - y.To) ≤ gap then O ++ [⟨y.From, max y.To x.To⟩] else O ++ [y] ++ [x] := by
  unfold joinStep
  rw [List.getLast?_append]
  simp
/-- A span that has numbers. -/
def SpOK (x : api_Span) : Prop := 0 ≤ x.From ∧ x.From < x.To ∧ x.To ≤ 9223372036854775807
theorem Form.snoc {O : List api_Span} {y : api_Span} (h : Form O) (hy : 0 ≤ y.From ∧ y.From < y.To) (hl : ∀ a ∈ O, a.To < y.From) : Form (O ++ [y]) :=
  ⟨fun x hx => by
    rcases List.mem_append.1 hx with hx | hx
    · exact h.1 x hx
    · rw [List.mem_singleton.1 hx]; exact hy, List.pairwise_append.2 ⟨h.2, List.pairwise_singleton _ _, fun a ha b hb => by rw [List.mem_singleton.1 hb]; exact hl a ha⟩⟩
theorem Form.init {O : List api_Span} {y : api_Span} (h : Form (O ++ [y])) : Form O ∧ (0 ≤ y.From ∧ y.From < y.To) ∧ ∀ a ∈ O, a.To < y.From := by
  have h2 := List.pairwise_append.1 h.2
  exact ⟨⟨fun x hx => h.1 x (List.mem_append_left _ hx), h2.1⟩, h.1 y (by simp), fun a ha => h2.2.2 a ha y (by simp)⟩
theorem spMem_append {p : Int} {l m : List api_Span} : spMem p (l ++ m) ↔ spMem p l ∨ spMem p m := by
  unfold spMem
  constructor
  · rintro ⟨x, hx, h⟩
    rcases List.mem_append.1 hx with hx | hx
    · exact .inl ⟨x, hx, h⟩
    · exact .inr ⟨x, hx, h⟩
  · rintro (⟨x, hx, h⟩ | ⟨x, hx, h⟩)
    · exact ⟨x, List.mem_append_left _ hx, h⟩
    · exact ⟨x, List.mem_append_right _ hx, h⟩
theorem spMem_one {p : Int} {x : api_Span} : spMem p [x] ↔ spIn p x := by
  unfold spMem; simp
theorem join_fold : ∀ (l out : List api_Span), Form out → (∀ y ∈ out, y.To ≤ 9223372036854775807) → (∀ x ∈ l, SpOK x) → Asc l → (∀ O y, out = O ++ [y] → ∀ x ∈ l, y.From ≤ x.From) →
    Form (l.foldl (joinStep 0) out) ∧ (∀ y ∈ l.foldl (joinStep 0) out, y.To ≤ 9223372036854775807) ∧ ∀ p, spMem p (l.foldl (joinStep 0) out) ↔ spMem p out ∨ spMem p l
  | [], out, hf, hb, _, _, _ => ⟨hf, hb, fun p => by simp [spMem]⟩
  | x :: l, out, hf, hb, hok, hasc, hle => by
    have hx := hok x List.mem_cons_self
    have hasc' := List.pairwise_cons.1 hasc
    have hxl : ∀ z ∈ l, x.From ≤ z.From := fun z hz => by
      have := hasc'.1 z hz
      unfold leS at this; omega
    rw [List.foldl_cons]
    rcases List.eq_nil_or_concat out with rfl | ⟨O, y, rfl⟩
    · have e : joinStep 0 [] x = [x] := rfl
      rw [e]
      obtain ⟨h1, h2, h3⟩ := join_fold l [x] ⟨fun z hz => by rw [List.mem_singleton.1 hz]; exact ⟨hx.1, hx.2.1⟩, List.pairwise_singleton _ _⟩ (fun z hz => by rw [List.mem_singleton.1 hz]; exact hx.2.2) (fun z hz => hok z (List.mem_cons_of_mem _ hz)) hasc'.2
        (fun O y e z hz => by
          have : y = x := by
            have := congrArg List.getLast? e
            simpa using this.symm
          rw [this]; exact hxl z hz)
      refine ⟨h1, h2, fun p => ?_⟩
      rw [h3, show x :: l = [x] ++ l from rfl, spMem_append]
      constructor
      · intro h; exact .inr h
      · rintro (⟨_, h, _⟩ | h)
        · cases h
        · exact h
    · rw [List.concat_eq_append] at hf hb hle ⊢
      obtain ⟨f1, f2, f3⟩ := hf.init
      have hyb := hb y (by simp)
      have hyx := hle O y rfl x List.mem_cons_self
      have hx2 := hx.2.1
      have hx3 := hx.2.2
      have hy2 := f2.2
      have hy1 := f2.1
      have hx1 := hx.1
      rw [joinStep_snoc, w64_id (by omega) (by omega)]
      by_cases hc : x.From - y.To ≤ 0
      · rw [if_pos hc]
        have hfo : Form (O ++ [⟨y.From, max y.To x.To⟩]) := f1.snoc ⟨f2.1, by show y.From < max y.To x.To; omega⟩ f3
        obtain ⟨h1, h2, h3⟩ := join_fold l (O ++ [⟨y.From, max y.To x.To⟩]) hfo (fun z hz => by
            rcases List.mem_append.1 hz with hz | hz
            · exact hb z (List.mem_append_left _ hz)
            · rw [List.mem_singleton.1 hz]; show max y.To x.To ≤ 9223372036854775807; have := hx.2.2; omega) (fun z hz => hok z (List.mem_cons_of_mem _ hz)) hasc'.2
          (fun O' y' e z hz => by
            have : y' = ⟨y.From, max y.To x.To⟩ := by
              have := congrArg List.getLast? e
              simpa using this.symm
            rw [this]
            have := hxl z hz
            show y.From ≤ z.From
            omega)
        refine ⟨h1, h2, fun p => ?_⟩
        rw [h3, spMem_append, spMem_append, show x :: l = [x] ++ l from rfl, spMem_append, spMem_one, spMem_one, spMem_one]
        have : spIn p ⟨y.From, max y.To x.To⟩ ↔ spIn p y ∨ spIn p x := by
          unfold spIn
          have h0 := hx.2.1
          have h1 := f2.2
          show (y.From ≤ p ∧ p < max y.To x.To) ↔ _
          omega
        rw [this]
        constructor
        · rintro ((h | h | h) | h)
          · exact .inl (.inl h)
          · exact .inl (.inr h)
          · exact .inr (.inl h)
          · exact .inr (.inr h)
        · rintro ((h | h) | h | h)
          · exact .inl (.inl h)
          · exact .inl (.inr (.inl h))
          · exact .inl (.inr (.inr h))
          · exact .inr h
      · rw [if_neg hc]
        have hfo : Form (O ++ [y] ++ [x]) := hf.snoc ⟨hx.1, hx.2.1⟩ (fun a ha => by
          rcases List.mem_append.1 ha with ha | ha
          · have := f3 a ha; have := f2.2; omega
          · rw [List.mem_singleton.1 ha]; omega)
        obtain ⟨h1, h2, h3⟩ := join_fold l (O ++ [y] ++ [x]) hfo (fun z hz => by
            rcases List.mem_append.1 hz with hz | hz
            · exact hb z hz
            · rw [List.mem_singleton.1 hz]; exact hx.2.2) (fun z hz => hok z (List.mem_cons_of_mem _ hz)) hasc'.2
          (fun O' y' e z hz => by
            have : y' = x := by
              have := congrArg List.getLast? e
              simpa using this.symm
            rw [this]; exact hxl z hz)
        refine ⟨h1, h2, fun p => ?_⟩
        rw [h3, spMem_append, show x :: l = [x] ++ l from rfl, spMem_append (l := [x]), or_assoc]
end Go.AB
end

section
namespace Go.AB
open Go

def spV (x : api_Span) : Bool := !((decide (x.From < 0)) || (decide (x.To ≤ x.From)))
theorem spV_iff {x : api_Span} : spV x = true ↔ 0 ≤ x.From ∧ x.From < x.To := by
  unfold spV; simp
def bdStep (at_ : Int) (s : Int × Bool) (b : Int) : Int × Bool := if (decide (b > at_)) && (!s.2 || (decide (b < s.1))) then (b, true) else s
def bds1 (x : api_Span) : List Int := if spV x then [x.From, x.To] else []
def bds (l : List api_Span) : List Int := l.flatMap bds1
def nextP (at_ : Int) (l : List api_Span) : Int × Bool := (bds l).foldl (bdStep at_) (0, false)
theorem bdStep_if (at_ : Int) (s : Int × Bool) (b : Int) {P : Prop} (h : (if (decide (b > at_)) && (!s.2 || (decide (b < s.1))) then some (b, true) else some s) = some (bdStep at_ s b)) : True := trivial
theorem bdStep_eq (at_ best b : Int) (found : Bool) : (if (decide (b > at_)) && (!found || (decide (b < best))) then some (b, true) else some (best, found)) = some (bdStep at_ (best, found) b) := by
  unfold bdStep
  split <;> rfl
theorem next_eq35 (at_ : Int) (l : List api_Span) (hl : l.length < 4611686018427387904) : ref35_next at_ l = some (nextP at_ l) := by
  unfold ref35_next
  refine jn_of (a := nextP at_ l) ?_ rfl
  refine iter_upto l.length (fun k => ((nextP at_ (l.take k)).1, (nextP at_ (l.take k)).2, (k : Int))) rfl (by omega) (fun k hk => ?_) ?_
  · have e5 : ix l (k : Int) = l[k] := ix_at (i := (k : Int)) hk
    have hw : w64 ((k : Int) + 1) = ((k + 1 : Nat) : Int) := by rw [w64_id (by omega) (by omega)]; omega
    have hstep : nextP at_ (l.take (k + 1)) = (bds1 l[k]).foldl (bdStep at_) (nextP at_ (l.take k)) := by
      unfold nextP bds
      rw [List.take_succ_eq_append_getElem hk, List.flatMap_append, List.foldl_append]
      simp
    rw [hstep]
    generalize nextP at_ (l.take k) = s
    obtain ⟨best, found⟩ := s
    dsimp only
    rw [e5, ← hw]
    have hi : 0 ≤ (k : Int) ∧ (k : Int) < l.length := ⟨by omega, by omega⟩
    refine if_of (decide_eq_true (by omega)) (jn_of (a := (bds1 l[k]).foldl (bdStep at_) (best, found)) (need_of hi (need_of (fun _ => hi) (need_of (fun _ => hi) ?_))) rfl)
    unfold bds1
    cases hv : spV l[k] with
    | false =>
      have : ((decide ((l[k]).From < 0)) || (decide ((l[k]).To ≤ (l[k]).From))) = true := by
        unfold spV at hv; exact (Bool.not_eq_false' _).mp hv
      rw [this]; rfl
    | true =>
      have : ((decide ((l[k]).From < 0)) || (decide ((l[k]).To ≤ (l[k]).From))) = false := by
        unfold spV at hv; exact (Bool.not_eq_true' _).mp hv
      rw [this]
      refine if_not (by simp) ?_
      show _ = some (bdStep at_ (bdStep at_ (best, found) (l[k]).From) (l[k]).To)
      refine jn_of (a := bdStep at_ (best, found) (l[k]).From) (need_of hi (need_of (fun _ => hi) ?_)) ?_
      · rw [need_pos hi]; exact bdStep_eq ..
      · refine need_of hi (need_of (fun _ => hi) ?_)
        rw [need_pos hi]; exact bdStep_eq ..
  · refine if_not (by simp) ?_
    rw [List.take_length]
theorem fold_next (at_ : Int) : ∀ (L : List Int) (s : Int × Bool), (s.2 = true → s.1 > at_) →
    ((L.foldl (bdStep at_) s).2 = true → ((L.foldl (bdStep at_) s).1 ∈ L ∨ (L.foldl (bdStep at_) s = s)) ∧ (L.foldl (bdStep at_) s).1 > at_ ∧ (∀ b ∈ L, b > at_ → (L.foldl (bdStep at_) s).1 ≤ b) ∧ (s.2 = true → (L.foldl (bdStep at_) s).1 ≤ s.1)) ∧
    ((L.foldl (bdStep at_) s).2 = false → s.2 = false ∧ ∀ b ∈ L, b ≤ at_)
  | [], s, h => ⟨fun h1 => ⟨.inr rfl, h h1, fun b hb => (by cases hb), fun _ => Int.le_refl _⟩, fun h1 => ⟨h1, fun b hb => (by cases hb)⟩⟩
  | b :: L, s, h => by
    rw [List.foldl_cons]
    obtain ⟨best, found⟩ := s
    by_cases hc : ((decide (b > at_)) && (!found || (decide (b < best)))) = true
    · have e : bdStep at_ (best, found) b = (b, true) := by unfold bdStep; rw [hc]; rfl
      rw [e]
      simp only [Bool.and_eq_true, Bool.or_eq_true, decide_eq_true_eq, Bool.not_eq_true'] at hc
      obtain ⟨h1, h2⟩ := fold_next at_ L (b, true) (fun _ => hc.1)
      refine ⟨fun h3 => ?_, fun h3 => ?_⟩
      · obtain ⟨a1, a2, a3, a4⟩ := h1 h3
        refine ⟨.inl ?_, a2, fun b' hb' hgt => ?_, fun hf => ?_⟩
        · rcases a1 with a1 | a1
          · exact List.mem_cons_of_mem _ a1
          · rw [a1]; exact List.mem_cons_self
        · rcases List.mem_cons.1 hb' with rfl | hb'
          · exact a4 rfl
          · exact a3 b' hb' hgt
        · have := a4 rfl
          have hf : found = true := hf
          show _ ≤ best
          rcases hc.2 with h | h
          · rw [hf] at h; cases h
          · omega
      · have := (h2 h3).1; cases this
    · have e : bdStep at_ (best, found) b = (best, found) := by unfold bdStep; rw [Bool.not_eq_true] at hc; rw [hc]; rfl
      rw [e]
      simp only [Bool.not_eq_true, Bool.and_eq_false_iff, Bool.or_eq_false_iff, decide_eq_false_iff_not, Bool.not_eq_false'] at hc
      obtain ⟨h1, h2⟩ := fold_next at_ L (best, found) h
      refine ⟨fun h3 => ?_, fun h3 => ?_⟩
      · obtain ⟨a1, a2, a3, a4⟩ := h1 h3
        refine ⟨?_, a2, fun b' hb' hgt => ?_, a4⟩
        · rcases a1 with a1 | a1
          · exact .inl (List.mem_cons_of_mem _ a1)
          · exact .inr a1
        · rcases List.mem_cons.1 hb' with rfl | hb'
          · rcases hc with hc | hc
            · exact (hc hgt).elim
            · have := a4 hc.1
              have : (List.foldl (bdStep at_) (best, found) L).fst ≤ best := this
              omega
          · exact a3 b' hb' hgt
      · obtain ⟨b1, b2⟩ := h2 h3
        refine ⟨b1, fun b' hb' => ?_⟩
        rcases List.mem_cons.1 hb' with rfl | hb'
        · rcases hc with hc | hc
          · omega
          · have b1 : found = false := b1
            rw [b1] at hc; cases hc.1
        · exact b2 b' hb'
/-- The least one above. -/
theorem nextP_spec (at_ : Int) (l : List api_Span) : ((nextP at_ l).2 = true → (nextP at_ l).1 ∈ bds l ∧ (nextP at_ l).1 > at_ ∧ ∀ b ∈ bds l, b > at_ → (nextP at_ l).1 ≤ b) ∧ ((nextP at_ l).2 = false → ∀ b ∈ bds l, b ≤ at_) := by
  obtain ⟨h1, h2⟩ := fold_next at_ (bds l) (0, false) (fun h => by cases h)
  refine ⟨fun h => ?_, fun h => (h2 h).2⟩
  obtain ⟨a1, a2, a3, _⟩ := h1 h
  refine ⟨?_, a2, a3⟩
  rcases a1 with a1 | a1
  · exact a1
  · have h : ((bds l).foldl (bdStep at_) (0, false)).2 = true := h
    rw [a1] at h; cases h
def wiP (at_ : Int) (x : api_Span) : Bool := ((decide (x.From ≥ 0)) && (decide (at_ ≥ x.From))) && (decide (at_ < x.To))
theorem some_eq35 (at_ : Int) (l : List api_Span) (hl : l.length < 4611686018427387904) : ref35_some at_ l = some (l.any (wiP at_)) := by
  unfold ref35_some
  have key : ∃ o : Unit ⊕ Bool, iter (fun (k2 : Int) =>
        if decide (k2 < (l.length : Int)) then
          need (0 ≤ k2 ∧ k2 < l.length) <|
          bnd (ref35_within at_ (ix l k2)) fun r4 =>
          if r4 then
            some (.inr (.inr true))
          else
            some (.inl (w64 (k2 + 1)))
        else
          some (.inr (.inl ()))) 0 = some o ∧ ((o = .inl () ∧ l.any (wiP at_) = false) ∨ (o = .inr true ∧ l.any (wiP at_) = true)) := by
    refine iter_inv (fun k => ∃ j : Nat, k = (j : Int) ∧ j ≤ l.length ∧ ∀ i (h : i < j) (h' : i < l.length), wiP at_ l[i] = false) (fun k => ((l.length : Int) - k).toNat) _ ⟨0, rfl, Nat.zero_le _, fun i h => absurd h (Nat.not_lt_zero i)⟩ (by show ((l.length : Int) - 0).toNat < _; omega) ?_
    rintro k ⟨j, rfl, hj, hi⟩
    by_cases hjl : j < l.length
    · have e : ix l (j : Int) = l[j] := ix_at (i := (j : Int)) hjl
      have ew : ref35_within at_ l[j] = some (wiP at_ l[j]) := rfl
      rw [if_pos (by simpa using hjl), need_pos ⟨by omega, by omega⟩, e, ew, bnd_some]
      cases hwi : wiP at_ l[j] with
      | true =>
        refine ⟨_, rfl, .inr ⟨rfl, ?_⟩⟩
        exact List.any_eq_true.2 ⟨_, List.getElem_mem hjl, hwi⟩
      | false =>
        refine ⟨_, rfl, ?_⟩
        show (∃ j' : Nat, w64 ((j : Int) + 1) = (j' : Int) ∧ _) ∧ _
        rw [w64_id (by omega) (by omega)]
        refine ⟨⟨j + 1, by omega, by omega, fun i h h' => ?_⟩, by omega⟩
        rcases Nat.lt_or_ge i j with hij | hij
        · exact hi i hij h'
        · have : i = j := by omega
          subst this; exact hwi
    · rw [if_neg (by simpa using hjl)]
      refine ⟨_, rfl, .inl ⟨rfl, ?_⟩⟩
      rw [List.any_eq_false]
      intro x hx
      obtain ⟨i, h, rfl⟩ := List.getElem_of_mem hx
      rw [hi i (by omega) h]; simp
  obtain ⟨o, h1, h2⟩ := key
  rw [h1]
  rcases h2 with ⟨rfl, h2⟩ | ⟨rfl, h2⟩
  · rw [h2]; rfl
  · rw [h2]; rfl
end Go.AB
end

section
namespace Go.AB
open Go

/-- A loop whose states stand for values, in one way or another. -/
theorem iter_toR {P : Program} {S O : Type} {body : S → Option (S ⊕ O)} {s0 : S} {kf : O → Prop} {live : List (Nat × Bool)} {b : IC} {Q : Exit → St → Prop} {σ : St} (R : S → St → Prop)
    (h0 : R s0 (σ.keepV live))
    (hb : ∀ (J : St → Prop) (s : S) (τ : St), R s τ → ok (body s) (caseS (fun t => ∀ τ', R t τ' → J τ') kf) → cwp P b (joinK live J Q) τ) : ok (iter body s0) kf → cwp P (.loop live b) Q σ := by
  intro h
  have hmin : ∀ τ, (∃ m s, R s τ ∧ ok (iterN body m s) kf) → ∃ m, (∃ s, R s τ ∧ ok (iterN body m s) kf) ∧ ∀ k, k < m → ¬ ∃ s, R s τ ∧ ok (iterN body k s) kf := by
    rintro τ ⟨m, s, h⟩
    induction m using Nat.strongRecOn generalizing s with
    | _ m ih =>
      by_cases hk : ∃ k, k < m ∧ ∃ s, R s τ ∧ ok (iterN body k s) kf
      · obtain ⟨k, hk, s', h'⟩ := hk
        exact ih k hk s' h'
      · exact ⟨m, ⟨s, h⟩, fun k hk' hs => hk ⟨k, hk', hs⟩⟩
  have hμ : ∃ μ : St → Nat, ∀ τ, (∃ m s, R s τ ∧ ok (iterN body m s) kf) → (∃ s, R s τ ∧ ok (iterN body (μ τ) s) kf) ∧ ∀ k, k < μ τ → ¬ ∃ s, R s τ ∧ ok (iterN body k s) kf :=
    ⟨fun τ => Classical.epsilon fun m => (∃ s, R s τ ∧ ok (iterN body m s) kf) ∧ ∀ k, k < m → ¬ ∃ s, R s τ ∧ ok (iterN body k s) kf, fun τ hτ => Classical.epsilon_spec (hmin τ hτ)⟩
  obtain ⟨μ, hμ⟩ := hμ
  refine ⟨fun τ => ∃ m s, R s τ ∧ ok (iterN body m s) kf, μ, ⟨_, s0, h0, h⟩, ?_⟩
  intro τ hτ
  obtain ⟨⟨s, e, hs⟩, _⟩ := hμ τ hτ
  generalize hm : μ τ = m at hs
  cases m with
  | zero => exact (iterN_zero hs).elim
  | succ m =>
    rw [loopK_join]
    obtain ⟨x, hx, k⟩ := iterN_succ hs
    refine hb _ s τ e ⟨x, hx, ?_⟩
    cases x with
    | inr o => exact k
    | inl t =>
      intro τ' ht
      refine ⟨⟨m, t, ht, k⟩, ?_⟩
      have h2 := (hμ τ' ⟨m, t, ht, k⟩).2
      rcases Nat.lt_or_ge m (μ τ') with hlt | hge
      · exact (h2 m hlt ⟨t, ht, k⟩).elim
      · omega

theorem flat_cell2 {α : Type} [Enc α] (l : List α) (sp : List AV) {i r : Nat} (hi : i < l.length) (hr : r < Enc.w α) : (flat l ++ sp)[i * Enc.w α + r]? = (Enc.cells l[i])[r]? := by
  have hlt : i * Enc.w α + r < (flat l).length := by
    rw [flat_len]
    calc i * Enc.w α + r < (i + 1) * Enc.w α := by rw [Nat.add_mul]; omega
      _ ≤ l.length * Enc.w α := Nat.mul_le_mul_right _ hi
  rw [List.getElem?_append_left hlt]
  have h := flat_sub l (Enc.w α) i 1 rfl
  rw [Nat.one_mul, List.drop_eq_getElem_cons hi] at h
  have h2 : (AB.sub (flat l) (i * Enc.w α) (Enc.w α))[r]? = (Enc.cells l[i])[r]? := by
    rw [h]
    show (flat [l[i]])[r]? = _
    unfold flat
    simp
  rw [sub_get, if_pos hr] at h2
  exact h2


/-- Where a row lies: nowhere, or in a block, with so much room and so many cells behind. -/
abbrev RowP := Option (Nat × Nat × List AV)
section
variable {α : Type} [Enc α]
def rowB : RowP → Nat
  | none => 0
  | some (b, _, _) => b
def rowC : RowP → Nat
  | none => 0
  | some (_, cap, _) => cap
abbrev rowA (r : RowP) (n : Nat) : AV := .arr (rowB r) 0 n (rowC r)
def rowS (s : Store) (r : RowP) (l : List α) : Store := match r with
  | none => s
  | some (b, _, sp) => s.set b (.cells (flat l ++ sp))
def RowOK (s : Store) (r : RowP) (l : List α) : Prop := match r with
  | none => l = []
  | some (b, cap, sp) => s b = none ∧ 0 < cap ∧ l.length ≤ cap ∧ (flat l ++ sp).length = cap * Enc.w α ∧ views sp = sp

theorem rowS_sub {s : Store} {r : RowP} {l : List α} (h : RowOK s r l) : Sub s (rowS s r l) := by
  cases r with
  | none => exact Sub.refl s
  | some x => exact (Sub.refl s).set h.1
theorem rowS_get {s : Store} {r : RowP} {l : List α} (h : RowOK s r l) {b : Nat} {o : SO} (hb : s b = some o) : rowS s r l b = some o := rowS_sub h b o hb
theorem row_len {s : Store} {r : RowP} {l : List α} (h : RowOK s r l) : lenV s 0 (rowA r l.length) = .tot (.int .i64 l.length) := by
  cases r with
  | none => rw [show l = [] from h]; rfl
  | some x => rfl
/-- One element more. -/
theorem app_row {σ : St} {d : Option Nat} {K : St → Prop} {sz by' : Nat} {s : Store} {r : RowP} {l : List α} {z v : α} (hσ : σ.s = rowS s r l) (h : RowOK s r l) (hz : sz = Enc.w α) (hr : (l.length + 1) * by' ≤ room)
    (hK : ∀ s' r', Sub s s' → RowOK s' r' (l ++ [v]) → K ({ σ with s := rowS s' r' (l ++ [v]) }.put d (rowA r' (l.length + 1)))) :
    appendAW sz by' (Enc.cells z) σ d K (rowA r l.length) (some (1, Enc.cells v)) := by
  subst hz
  have hcz : (Enc.cells z).length = Enc.w α := Enc.len z
  have hcv : flat [v] = Enc.cells v := by unfold flat; simp
  have hvz : views (Enc.cells z) = Enc.cells z := Enc.vw z
  have fresh : ∀ (s' : Store) (b' cap' : Nat), s' b' = none → l.length + 1 ≤ cap' → RowOK s' (some (b', cap', flat (List.replicate (cap' - (l.length + 1)) z))) (l ++ [v]) := fun s' b' cap' hb hc => by
    refine ⟨hb, by omega, by simpa using hc, ?_, flat_views _⟩
    rw [List.length_append, flat_len, flat_len, List.length_replicate, List.length_append, ← Nat.add_mul]
    congr 1
    simp; omega
  cases r with
  | none =>
    obtain rfl : l = [] := h
    show appendAW (Enc.w α) by' (Enc.cells z) σ d K (.arr 0 0 0 0) _
    refine appendAW_new hcz (olds := []) rfl (by simp) hr fun b' cap' hb' hc => ?_
    rw [List.nil_append, ← flat_rep, ← hcv]
    rw [hσ] at hb' ⊢
    have := hK s (some (b', cap', flat (List.replicate (cap' - (0 + 1)) z))) (Sub.refl s) (fresh s b' cap' hb' hc)
    exact this
  | some x =>
    obtain ⟨b, cap, sp⟩ := x
    obtain ⟨h1, h2, h3, h4, h5⟩ := h
    have hs : σ.s b = some (.cells (flat l ++ sp)) := by rw [hσ]; exact set_at
    show appendAW (Enc.w α) by' (Enc.cells z) σ d K (.arr b 0 l.length cap) _
    by_cases hc : l.length + 1 ≤ cap
    · refine appendAW_in hcz hs (by rw [h4, Nat.zero_add]; exact Nat.le_refl _) hc ?_
      have hsp : [v].length * Enc.w α ≤ sp.length := by
        rw [List.length_append, flat_len] at h4
        have : (l.length + 1) * Enc.w α ≤ cap * Enc.w α := Nat.mul_le_mul_right _ hc
        rw [Nat.add_mul, Nat.one_mul] at this
        simp; omega
      have st := row_room l [v] sp (Enc.w α) rfl hsp
      rw [Nat.zero_add, ← hcv, st]
      have e : σ.s.set b (.cells (flat (l ++ [v]) ++ sp.drop ([v].length * Enc.w α))) = rowS s (some (b, cap, sp.drop ([v].length * Enc.w α))) (l ++ [v]) := by
        rw [hσ]
        show (s.set b _).set b _ = s.set b _
        exact set_set ..
      rw [e]
      refine hK s _ (Sub.refl s) ⟨h1, h2, by simpa using hc, ?_, ?_⟩
      · rw [List.length_append, flat_len] at h4 ⊢
        rw [List.length_drop, List.length_append, Nat.add_mul]
        omega
      · unfold views at h5 ⊢
        rw [List.map_drop, h5]
    · refine appendAW_new hcz (oldsV_arr hs (by
        rw [Nat.zero_add, h4]; exact Nat.mul_le_mul_right _ h3)) (by omega) hr fun b' cap' hb' hc' => ?_
      have ho : views (AB.sub (flat l ++ sp) 0 (l.length * Enc.w α)) = flat l := by
        have := row_sub l sp (Enc.w α) 0 l.length rfl (by omega)
        rw [Nat.zero_mul] at this
        rw [this, List.drop_zero, List.take_length, flat_views]
      rw [ho, ← flat_rep, ← hcv, ← flat_append]
      rw [hσ] at hb' ⊢
      have hb0 : (s.set b (.cells (flat l ++ sp))) b' = none := hb'
      exact hK (s.set b (.cells (flat l ++ sp))) (some (b', cap', flat (List.replicate (cap' - (l.length + 1)) z))) ((Sub.refl s).set h1) (fresh _ b' cap' hb0 hc')
/-- A row that is not empty lies somewhere. -/
theorem row_at {s : Store} {r : RowP} {l : List α} (h : RowOK s r l) (hl : 0 < l.length) : ∃ b cap sp, r = some (b, cap, sp) := by
  cases r with
  | none => rw [show l = [] from h] at hl; simp at hl
  | some x => exact ⟨_, _, _, rfl⟩
/-- An element is written. -/
theorem row_upd {s : Store} {b cap : Nat} {sp : List AV} {l l' : List α} (h : RowOK s (some (b, cap, sp)) l) (hl : l'.length = l.length) : RowOK s (some (b, cap, sp)) l' := by
  obtain ⟨h1, h2, h3, h4, h5⟩ := h
  exact ⟨h1, h2, by omega, by rw [List.length_append, flat_len] at h4 ⊢; rw [hl]; exact h4, h5⟩
/-- The row becomes a value. -/
theorem frz_row {σ : St} {d : Option Nat} {K : St → Prop} {sz : Nat} {s : Store} {r : RowP} {l : List α} (hσ : σ.s = rowS s r l) (h : RowOK s r l) (hz : sz = Enc.w α)
    (hK : K ({ σ with s := s }.put d (.sl true sz l.length (flat l)))) : frzW sz true σ d K (rowA r l.length) := by
  subst hz
  cases r with
  | none =>
    obtain rfl : l = [] := h
    show frzW (Enc.w α) true σ d K (.arr 0 0 0 0)
    refine .inl ⟨rfl, rfl, rfl, ?_⟩
    have e : { σ with s := s } = σ := by
      have : σ.s = s := hσ
      rw [← this]
    rw [e] at hK
    exact hK
  | some x =>
    obtain ⟨b, cap, sp⟩ := x
    obtain ⟨h1, h2, h3, h4, h5⟩ := h
    have hs : σ.s b = some (.cells (flat l ++ sp)) := by rw [hσ]; exact set_at
    show frzW (Enc.w α) true σ d K (.arr b 0 l.length cap)
    refine .inr ⟨h2, h3, fun _ => ⟨rfl, ?_, ?_⟩, ?_⟩
    · rw [hs]; show 0 + cap * Enc.w α ≤ _; rw [h4]; omega
    · rw [hs]; show _ = 0 + cap * Enc.w α; rw [h4]; omega
    · have ho : views (AB.sub (flat l ++ sp) 0 (l.length * Enc.w α)) = flat l := by
        have := row_sub l sp (Enc.w α) 0 l.length rfl (by omega)
        rw [Nat.zero_mul] at this
        rw [this, List.drop_zero, List.take_length, flat_views]
      rw [hs]
      show frzW.frzK _ _ σ d K b l.length (bif decide (0 + l.length * Enc.w α ≤ (flat l ++ sp).length) then some (l.length, views (AB.sub (flat l ++ sp) 0 (l.length * Enc.w α))) else none)
      rw [decide_eq_true (by rw [Nat.zero_add, h4]; exact Nat.mul_le_mul_right _ h3), ho]
      have e : σ.s.del b = s := by
        rw [hσ]
        exact del_set h1
      show K ({ σ with s := σ.s.del b }.put d (.sl true _ l.length (flat l)))
      rw [e]; exact hK
end
end Go.AB
end

section
namespace Go.AB
open Go
theorem setAt_last (O : List api_Span) (y : api_Span) (sp : List AV) (v : Int) : setAt (flat (O ++ [y]) ++ sp) (O.length * 2 + 1) [AV.int .i64 v] = flat (O ++ [⟨y.From, v⟩]) ++ sp := by
  have e : flat (O ++ [⟨y.From, v⟩]) ++ sp = setAt (flat (O ++ [y]) ++ sp) (O.length * 2) (flat [(⟨y.From, v⟩ : api_Span)]) := by
    have := row_set (O ++ [y]) [⟨y.From, v⟩] sp 2 O.length rfl (by simp)
    rw [this]
    simp
  rw [e]
  have hl : O.length * 2 + 2 ≤ (flat (O ++ [y]) ++ sp).length := by
    rw [List.length_append, flat_len]
    show O.length * 2 + 2 ≤ (O ++ [y]).length * 2 + _
    simp; omega
  apply List.ext_getElem?
  intro j
  rw [setAt_get _ _ _ _ (by show O.length * 2 + 1 + 1 ≤ _; omega), setAt_get _ _ _ _ (by show O.length * 2 + 2 ≤ _; exact hl)]
  show (if O.length * 2 + 1 ≤ j ∧ j < O.length * 2 + 1 + 1 then _ else _) = if O.length * 2 ≤ j ∧ j < O.length * 2 + 2 then _ else _
  by_cases h1 : j = O.length * 2 + 1
  · subst h1
    rw [if_pos (by omega), if_pos (by omega), Nat.sub_self, show O.length * 2 + 1 - O.length * 2 = 1 by omega]; rfl
  · rw [if_neg (by omega)]
    by_cases h2 : j = O.length * 2
    · subst h2
      rw [if_pos (by omega), Nat.sub_self]
      have := flat_cell2 (O ++ [y]) sp (i := O.length) (by simp) (r := 0) (by decide)
      rw [Nat.add_zero] at this
      have e2 : (O ++ [y])[O.length]'(by simp) = y := by simp
      rw [e2] at this
      exact this
    · rw [if_neg (by omega)]
theorem last_cell (O : List api_Span) (y : api_Span) (sp : List AV) : (flat (O ++ [y]) ++ sp)[O.length * 2 + 1]? = some (.int .i64 y.To) := by
  have := flat_cell2 (O ++ [y]) sp (i := O.length) (by simp) (r := 1) (by decide)
  have e : (O ++ [y])[O.length]'(by simp) = y := by simp
  rw [e] at this
  exact this
theorem last_fit (O : List api_Span) (y : api_Span) (sp : List AV) : O.length * 2 + 1 + 1 ≤ (flat (O ++ [y]) ++ sp).length := by
  rw [List.length_append, flat_len]
  show O.length * 2 + 2 ≤ (O ++ [y]).length * 2 + _
  simp; omega
end Go.AB
end

section
set_option maxRecDepth 4000
namespace Go.AB
open Go
/-- catchword/catchwordref35.Joined -/
def ir_ref35_Joined : IC :=
 (.seq (.reg none [i1 4 (.mov true (.c (.sl true 2 0 [])))] [0, 1])
 (.seq (.reg none [i1 5 (.mov false (.c (.arr 0 0 0 0)))] [0, 1, 5])
 (.seq (.reg none [i1 12 (.buildSl 2 0 [] []),
 mv 13 0,
 i1 14 (.append 2 16 (.t 12) (.t 13)),
 mv 15 1,
 i1 16 (.append 2 16 (.t 14) (.t 15)),
 mt 6 16] [0, 1, 5, 6])
 (.seq (.reg none [mv 18 6,
 i1 19 (.call 114 [(.c (.int .i64 (-1))), (.t 18)]),
 i1 17 (.movT (.t 19)),
 i1 20 (.extract (.t 17) 0),
 i1 21 (.extract (.t 17) 1),
 mv 7 20,
 mv 8 21] [0, 1, 5, 6, 7, 8])
 (.seq (.block 0 (.loop [(0, false), (1, false), (5, false), (6, false), (7, false), (8, false)] (.seq (.seq (.reg none [mv 22 8] [0, 1, 5, 6, 7, 22])
 (.cond (.t 22) .skip
 (.exit 0)))
 (.block 1 (.seq (.reg none [mv 24 7,
 mv 25 6,
 i1 26 (.call 114 [(.t 24), (.t 25)]),
 i1 23 (.movT (.t 26)),
 i1 27 (.extract (.t 23) 0),
 i1 28 (.extract (.t 23) 1),
 mv 9 27,
 mv 10 28] [0, 1, 5, 6, 7, 9, 10])
 (.seq (.seq (.reg (some 10) [mv 29 10,
 mv 30 29,
 mvg 31 7 30 true,
 mvg 32 0 30 true,
 i1g 33 30 true (.call 115 [(.t 31), (.t 32)]),
 i1 34 (.pick (.t 30) (.t 33) (.c (.bool false))),
 mv 35 34,
 mvg 36 7 35 true,
 mvg 37 1 35 true,
 i1g 38 35 true (.call 115 [(.t 36), (.t 37)]),
 i1g 39 35 true (.un .not (.t 38)),
 i1 40 (.pick (.t 35) (.t 39) (.c (.bool false)))] [0, 1, 5, 6, 7, 9, 10, 40])
 (.cond (.t 40) (.seq (.reg none [mv 41 5,
 i1 42 (.len 0 (.t 41)),
 mv 11 42] [0, 1, 5, 6, 7, 9, 10, 11])
 (.seq (.reg none [mv 43 11,
 i1 44 (.bin .gtr (.t 43) (.c (.int .i64 0))),
 mv 45 44,
 mvg 46 5 45 true,
 mvg 47 11 45 true,
 i1g 48 45 true (.bin .sub (.t 47) (.c (.int .i64 1))),
 i1g 49 45 true (.indexAddr [.int .i64 0, .int .i64 0] (.t 46) (.t 48)),
 i1g 50 45 true (.fieldAddr 1 (.t 49)),
 i1g 51 45 true (.loadI .i64 (.t 50)),
 mvg 52 7 45 true,
 i1g 53 45 true (.bin .eql (.t 51) (.t 52)),
 i1 54 (.pick (.t 45) (.t 53) (.c (.bool false)))] [0, 1, 5, 6, 7, 9, 10, 11, 54])
 (.cond (.t 54) (.reg none [mv 55 5,
 mv 56 11,
 i1 57 (.bin .sub (.t 56) (.c (.int .i64 1))),
 mv 58 9,
 i1 59 (.indexAddr [.int .i64 0, .int .i64 0] (.t 55) (.t 57)),
 i1 60 (.fieldAddr 1 (.t 59)),
 i0 (.store 1 (.t 60) (.t 58))] [0, 1, 5, 6, 9, 10])
 (.reg none [mv 61 5,
 mv 62 7,
 mv 63 9,
 i1 64 (.build [.int .i64 0, .int .i64 0] [(0, 1, (.t 62)), (1, 1, (.t 63))]),
 i1 65 (.buildSl 2 1 [.int .i64 0, .int .i64 0] [(0, 2, (.t 64))]),
 i1 66 (.appendA 2 16 [.int .i64 0, .int .i64 0] (.t 61) (.t 65)),
 mv 5 66] [0, 1, 5, 6, 9, 10]))))
 .skip))
 (.reg none [mv 67 9,
 mv 68 10,
 mv 7 67,
 mv 8 68] [0, 1, 5, 6, 7, 8])))))))
 (.seq (.reg none [mv 69 5,
 i1 4 (.frz 2 true (.t 69))] [4])
 .ret))))))
def res_ref35_Joined : List IRes := [⟨4, true, none⟩]
theorem is_ref35_Joined : fnIs Go.Proofs.Try.prog 81 70 res_ref35_Joined ir_ref35_Joined = true := by kernel_rfl

def grow1 (out : List api_Span) (at_ to : Int) : Option (List api_Span) :=
  need ((out.length + 1) * 16 ≤ room) <|
  some (match out.getLast? with
  | some y => if y.To = at_ then out.dropLast ++ [⟨y.From, to⟩] else out ++ [⟨at_, to⟩]
  | none => [⟨at_, to⟩])
def joinedBody (l but : List api_Span) : (List api_Span) × Int × Bool → Option (((List api_Span) × Int × Bool) ⊕ (List api_Span)) := fun (out, at_, is_) =>
  if is_ then
    bnd (ref35_next at_ (l ++ but)) fun r2 =>
    bnd (whenB r2.2 false (ref35_some at_ l)) fun r3 =>
    bnd (whenB (r2.2 && r3) false (ref35_some at_ but)) fun r4 =>
    if (r2.2 && r3) && !r4 then
      bnd (grow1 out at_ r2.1) fun o => some (.inl (o, r2.1, r2.2))
    else some (.inl (out, r2.1, r2.2))
  else some (.inr out)
def ref35_Joined (l but : List api_Span) : Option (List api_Span) :=
  need (l.length * 16 ≤ room) <|
  need ((l.length + but.length) * 16 ≤ room) <|
  bnd (ref35_next (-1) (l ++ but)) fun r1 =>
  iter (joinedBody l but) (([] : List api_Span), r1.1, r1.2)
theorem ref35_Joined_fn {l but : List api_Span} {s : Store} {Q : List AV → Store → Prop} : ok (ref35_Joined l but) (fun r => Q [.sl true 2 r.length (flat r)] s) → FN Go.Proofs.Try.prog 81 [.sl false 2 l.length (flat l), .sl false 2 but.length (flat but)] s Q := by
  intro h
  refine FN.weak ?_
  refine FN.of (draw_ok mix) is_ref35_Joined rfl (Nat.le_of_ble_eq_true rfl) ?_
  revert h
  rw [ir_ref35_Joined, res_ref35_Joined, ref35_Joined]
  simp -implicitDefEqProofs only [go_sem, start, startE, resVs, resV, resC, allV, retK, Nat.reduceBEq, Nat.reduceAdd, Nat.reduceMul, Nat.reduceLeDiff, Nat.reduceEqDiff, Nat.reduceBNe, Nat.ble_eq, UInt8.reduceToNat]
  refine and_to (fun h => h) (and_to (fun h => h) ?_)
  refine call_to (fun _ h => (by refine FE_cast ?_ (ref35_next_fe h); simp -implicitDefEqProofs only [go_sem, start, startE, resVs, resV, resC, allV, retK, Nat.reduceBEq, Nat.reduceAdd, Nat.reduceMul, Nat.reduceLeDiff, Nat.reduceEqDiff, Nat.reduceBNe, Nat.ble_eq, UInt8.reduceToNat])) (fun r1 => ?_)
  simp -implicitDefEqProofs only [go_sem, start, startE, resVs, resV, resC, allV, retK, Nat.reduceBEq, Nat.reduceAdd, Nat.reduceMul, Nat.reduceLeDiff, Nat.reduceEqDiff, Nat.reduceBNe, Nat.ble_eq, UInt8.reduceToNat]
  refine iter_toR (fun st τ => ∃ (s' : Store) (r : RowP), τ = ⟨[(0, .sl false 2 l.length (flat l)), (1, .sl false 2 but.length (flat but)), (5, rowA r st.1.length), (6, .sl true 2 (l.length + but.length) (flat l ++ flat but)), (7, .int .i64 st.2.1), (8, .bool st.2.2)], [], rowS s' r st.1⟩ ∧ Sub s s' ∧ RowOK s' r st.1)
    ⟨s, none, rfl, Sub.refl _, rfl⟩ ?_
  rintro J ⟨out, at_, is_⟩ τ ⟨s', r, rfl, hs, hok⟩
  rw [joinedBody]
  simp -implicitDefEqProofs only [go_sem, start, startE, resVs, resV, resC, allV, retK, Nat.reduceBEq, Nat.reduceAdd, Nat.reduceMul, Nat.reduceLeDiff, Nat.reduceEqDiff, Nat.reduceBNe, Nat.ble_eq, UInt8.reduceToNat]
  refine and_to (im_to ?_) (im_to ?_)
  · refine call_to (fun _ h => (by refine FE_cast ?_ (ref35_next_fe h); simp -implicitDefEqProofs only [go_sem, start, startE, resVs, resV, resC, allV, retK, Nat.reduceBEq, Nat.reduceAdd, Nat.reduceMul, Nat.reduceLeDiff, Nat.reduceEqDiff, Nat.reduceBNe, Nat.ble_eq, UInt8.reduceToNat])) (fun r2 => ?_)
    simp -implicitDefEqProofs only [go_sem, start, startE, resVs, resV, resC, allV, retK, Nat.reduceBEq, Nat.reduceAdd, Nat.reduceMul, Nat.reduceLeDiff, Nat.reduceEqDiff, Nat.reduceBNe, Nat.ble_eq, UInt8.reduceToNat]
    refine call_to_g rfl (fun _ h => ref35_some_fe h) (fun _ => rfl) (fun r3 => ?_)
    simp -implicitDefEqProofs only [go_sem, start, startE, resVs, resV, resC, allV, retK, Nat.reduceBEq, Nat.reduceAdd, Nat.reduceMul, Nat.reduceLeDiff, Nat.reduceEqDiff, Nat.reduceBNe, Nat.ble_eq, UInt8.reduceToNat]
    refine call_to_g rfl (fun _ h => ref35_some_fe h) (fun _ => rfl) (fun r4 => ?_)
    simp -implicitDefEqProofs only [go_sem, start, startE, resVs, resV, resC, allV, retK, Nat.reduceBEq, Nat.reduceAdd, Nat.reduceMul, Nat.reduceLeDiff, Nat.reduceEqDiff, Nat.reduceBNe, Nat.ble_eq, UInt8.reduceToNat]
    have hok : RowOK s' r out := hok
    rintro ⟨hy, hn⟩
    refine ⟨fun hc => ?_, fun hc => hn hc _ ⟨s', r, rfl, hs, hok⟩⟩
    have hy := hy hc
    unfold grow1 at hy
    rw [ok_need, ok_some] at hy
    obtain ⟨hr, hJ⟩ := hy
    have hr' := hr
    unfold room at hr'
    rcases List.eq_nil_or_concat out with rfl | ⟨O, y, rfl⟩
    · have e0 : decide ((([] : List api_Span).length : Int) > 0) = false := by decide
      rw [e0]
      refine ⟨fun h => (by cases h), fun h => (by cases h), fun h => (by cases h), fun _ => ?_⟩
      rw [srcV_sl]
      refine app_row (z := api_Span.mk 0 0) (v := api_Span.mk at_ r2.1) rfl hok rfl hr fun s2 r' h1 h2 => ?_
      simp -implicitDefEqProofs only [go_sem, start, startE, resVs, resV, resC, allV, retK, Nat.reduceBEq, Nat.reduceAdd, Nat.reduceMul, Nat.reduceLeDiff, Nat.reduceEqDiff, Nat.reduceBNe, Nat.ble_eq, UInt8.reduceToNat]
      exact hJ _ ⟨s2, r', rfl, fun b o hb => h1 b o (hs b o hb), h2⟩
    · rw [List.concat_eq_append] at hok hJ hr hr' ⊢
      have hlen : ((O ++ [y]).length : Int) = (O.length : Int) + 1 := by simp
      have hw : w64 (((O ++ [y]).length : Int) - 1) = (O.length : Int) := by rw [hlen, w64_id (by simp at hr'; omega) (by simp at hr'; omega)]; omega
      have e0 : decide (((O ++ [y]).length : Int) > 0) = true := decide_eq_true (by omega)
      obtain ⟨b, cap, sp, rfl⟩ := row_at hok (by simp)
      have hget : rowS s' (some (b, cap, sp)) (O ++ [y]) b = some (.cells (flat (O ++ [y]) ++ sp)) := set_at
      have hcell := last_cell O y sp
      have hlast : (O ++ [y]).getLast? = some y := by simp
      rw [hlast] at hJ
      rw [hw, e0, Int.toNat_natCast, show rowB (some (b, cap, sp)) = b from rfl, hget]
      show _ ∧ (_ → loadIc .i64 (O.length * 2 + 1) (some (.cells (flat (O ++ [y]) ++ sp)))) ∧ ((true && (intOf (flat (O ++ [y]) ++ sp)[O.length * 2 + 1]? == at_)) = true → _) ∧ ((true && (intOf (flat (O ++ [y]) ++ sp)[O.length * 2 + 1]? == at_)) = false → _)
      rw [hcell]
      show _ ∧ _ ∧ ((true && (y.To == at_)) = true → _) ∧ ((true && (y.To == at_)) = false → _)
      rw [Bool.true_and]
      refine ⟨fun _ => ⟨by omega, by omega⟩, fun _ => ⟨_, hcell⟩, fun he => ⟨⟨by omega, by omega⟩, ?_⟩, fun he => ?_⟩
      · have he : y.To = at_ := by simpa using he
        simp only [if_pos he, List.dropLast_concat] at hJ
        have hlen2 : (O ++ [(⟨y.From, r2.1⟩ : api_Span)]).length = O.length + 1 := by simp
        have hlen3 : (O ++ [y]).length = O.length + 1 := by simp
        show stK none _ (wrS _ b (wrCells (O.length * 2 + 1) [AV.int .i64 r2.1] (flat (O ++ [y]) ++ sp)))
        unfold wrCells
        rw [decide_eq_true (show O.length * 2 + 1 + [AV.int .i64 r2.1].length ≤ _ from last_fit O y sp), setAt_last]
        generalize hX : flat (O ++ [(⟨y.From, r2.1⟩ : api_Span)]) ++ sp = X
        simp -implicitDefEqProofs only [go_sem, start, startE, resVs, resV, resC, allV, retK, Nat.reduceBEq, Nat.reduceAdd, Nat.reduceMul, Nat.reduceLeDiff, Nat.reduceEqDiff, Nat.reduceBNe, Nat.ble_eq, UInt8.reduceToNat]
        have e : (rowS s' (some (b, cap, sp)) (O ++ [y])).set b (.cells (flat (O ++ [(⟨y.From, r2.1⟩ : api_Span)]) ++ sp)) = rowS s' (some (b, cap, sp)) (O ++ [(⟨y.From, r2.1⟩ : api_Span)]) := set_set ..
        have hJ2 := hJ _ ⟨s', some (b, cap, sp), rfl, hs, row_upd hok (by rw [hlen2, hlen3])⟩
        rw [hX] at e
        rw [hlen2, ← e] at hJ2
        exact hJ2
      · have he : y.To ≠ at_ := by simpa using he
        simp only [if_neg he] at hJ
        rw [srcV_sl]
        refine app_row (z := api_Span.mk 0 0) (v := api_Span.mk at_ r2.1) rfl hok rfl hr fun s2 r' h1 h2 => ?_
        simp -implicitDefEqProofs only [go_sem, start, startE, resVs, resV, resC, allV, retK, Nat.reduceBEq, Nat.reduceAdd, Nat.reduceMul, Nat.reduceLeDiff, Nat.reduceEqDiff, Nat.reduceBNe, Nat.ble_eq, UInt8.reduceToNat]
        have hlen2 : (O ++ [y] ++ [(⟨at_, r2.1⟩ : api_Span)]).length = O.length + 1 + 1 := by simp
        have hJ2 := hJ _ ⟨s2, r', rfl, fun b o hb => h1 b o (hs b o hb), h2⟩
        rw [hlen2] at hJ2
        exact hJ2
  · intro hq
    have hok : RowOK s' r out := hok
    refine frz_row (s := s') (r := r) (l := out) rfl hok rfl ?_
    simp -implicitDefEqProofs only [go_sem, start, startE, resVs, resV, resC, allV, retK, Nat.reduceBEq, Nat.reduceAdd, Nat.reduceMul, Nat.reduceLeDiff, Nat.reduceEqDiff, Nat.reduceBNe, Nat.ble_eq, UInt8.reduceToNat]
    exact ⟨s, hs, hq⟩
end Go.AB
end

section
namespace Go.AB
open Go

/-- A number that lies in a span that has some. -/
def inL (p : Int) (l : List api_Span) : Prop := ∃ x ∈ l, spV x = true ∧ spIn p x
theorem any_inL {p : Int} (hp : 0 ≤ p) (l : List api_Span) : (l.any (wiP p)) = true ↔ inL p l := by
  rw [List.any_eq_true]
  unfold inL
  constructor
  · rintro ⟨x, hx, h⟩
    unfold wiP at h
    simp at h
    exact ⟨x, hx, spV_iff.2 ⟨h.1.1, by omega⟩, h.1.2, h.2⟩
  · rintro ⟨x, hx, h1, h2, h3⟩
    have := spV_iff.1 h1
    refine ⟨x, hx, ?_⟩
    unfold wiP
    simp
    exact ⟨⟨this.1, h2⟩, h3⟩
theorem mem_bds {l : List api_Span} {b : Int} : b ∈ bds l ↔ ∃ x ∈ l, spV x = true ∧ (b = x.From ∨ b = x.To) := by
  unfold bds
  rw [List.mem_flatMap]
  constructor
  · rintro ⟨x, hx, h⟩
    unfold bds1 at h
    cases hv : spV x with
    | true => rw [hv] at h; simp at h; exact ⟨x, hx, hv, h⟩
    | false => rw [hv] at h; simp at h
  · rintro ⟨x, hx, hv, h⟩
    refine ⟨x, hx, ?_⟩
    unfold bds1
    rw [hv]; simp; exact h
theorem bds_append (l m : List api_Span) : bds (l ++ m) = bds l ++ bds m := by unfold bds; rw [List.flatMap_append]
theorem bds_len (l : List api_Span) : (bds l).length ≤ 2 * l.length := by
  induction l with
  | nil => simp [bds]
  | cons x l ih =>
    have e : bds (x :: l) = bds1 x ++ bds l := rfl
    rw [e, List.length_append]
    have : (bds1 x).length ≤ 2 := by unfold bds1; split <;> simp
    simp; omega
/-- Between two neighbours nothing turns. -/
theorem inL_const {l : List api_Span} {a t p : Int} (hn : ∀ b ∈ bds l, b > a → t ≤ b) (h1 : a ≤ p) (h2 : p < t) : inL p l ↔ inL a l := by
  unfold inL
  constructor
  · rintro ⟨x, hx, hv, h3, h4⟩
    refine ⟨x, hx, hv, ?_, by omega⟩
    apply Classical.byContradiction
    intro hlt
    have := hn x.From (mem_bds.2 ⟨x, hx, hv, .inl rfl⟩) (by omega)
    omega
  · rintro ⟨x, hx, hv, h3, h4⟩
    refine ⟨x, hx, hv, by omega, ?_⟩
    have := hn x.To (mem_bds.2 ⟨x, hx, hv, .inr rfl⟩) (by omega)
    omega
theorem inL_above {l : List api_Span} {a p : Int} (hn : ∀ b ∈ bds l, b ≤ a) (h1 : a ≤ p) : ¬ inL p l := by
  rintro ⟨x, hx, hv, h3, h4⟩
  have := hn x.To (mem_bds.2 ⟨x, hx, hv, .inr rfl⟩)
  omega
theorem inL_below {l : List api_Span} {t p : Int} (hn : ∀ b ∈ bds l, b > -1 → t ≤ b) (h2 : p < t) : ¬ inL p l := by
  rintro ⟨x, hx, hv, h3, h4⟩
  have h5 := spV_iff.1 hv
  have := hn x.From (mem_bds.2 ⟨x, hx, hv, .inl rfl⟩) (by omega)
  omega

def Want (l but : List api_Span) (p : Int) : Prop := inL p l ∧ ¬ inL p but
def cnt (L : List Int) (a : Int) : Nat := L.countP (fun b => decide (b > a))
theorem cnt_cons (x : Int) (L : List Int) (a : Int) : cnt (x :: L) a = cnt L a + (if x > a then 1 else 0) := by
  unfold cnt
  rw [List.countP_cons]
  by_cases h : x > a
  · rw [decide_eq_true h, if_pos h]; rfl
  · rw [decide_eq_false h, if_neg h]; rfl
theorem cnt_mono : ∀ (L : List Int) {a t : Int}, a ≤ t → cnt L t ≤ cnt L a
  | [], _, _, _ => Nat.le_refl _
  | x :: L, a, t, h => by
    have := cnt_mono L h
    rw [cnt_cons, cnt_cons]
    split <;> split <;> omega
theorem countP_less : ∀ {L : List Int} {a t : Int}, t ∈ L → a < t → cnt L t < cnt L a
  | [], _, _, h, _ => by cases h
  | x :: L, a, t, ht, h => by
    have mono := cnt_mono L (a := a) (t := t) (by omega)
    rw [cnt_cons, cnt_cons]
    rcases List.mem_cons.1 ht with rfl | ht
    · rw [if_neg (by omega), if_pos h]; omega
    · have := countP_less ht h
      split <;> split <;> omega
/-- Whether the row's end is the place. -/
def flagS (out : List api_Span) (a : Int) : Nat := match out.getLast? with
  | some y => if y.To = a then 0 else 1
  | none => 1
theorem flagS_le (out : List api_Span) (a : Int) : flagS out a ≤ 1 := by
  unfold flagS; split
  · split <;> omega
  · omega
theorem flagS_snoc (O : List api_Span) (y : api_Span) (a : Int) : flagS (O ++ [y]) a = if y.To = a then 0 else 1 := by
  unfold flagS; simp
theorem cnt_le : ∀ (L : List Int) (a : Int), cnt L a ≤ L.length
  | [], _ => Nat.le_refl _
  | x :: L, a => by
    have := cnt_le L a
    rw [cnt_cons, List.length_cons]
    split <;> omega
theorem countP_lt_len : ∀ {L : List Int} {a : Int}, a ∈ L → cnt L a + 1 ≤ L.length
  | [], _, h => by cases h
  | x :: L, a, h => by
    have hle := cnt_le L a
    rw [cnt_cons, List.length_cons]
    rcases List.mem_cons.1 h with rfl | h
    · rw [if_neg (by omega)]; omega
    · have := countP_lt_len h
      split <;> omega
theorem when_of {α : Type} {g : Bool} {z : α} {o r : Option α} (hg : g = true) (h : o = r) : whenB g z o = r := by rw [hg, whenB_t]; exact h
theorem when_no {α : Type} {g : Bool} {z : α} {o : Option α} (hg : g = false) : whenB g z o = some z := by rw [hg, whenB_f]
open Classical in
theorem joined_runs (l but : List api_Span) (hb : (l.length + but.length) * 16 ≤ room) : ∀ (n : Nat) (out : List api_Span) (a : Int), cnt (bds (l ++ but)) a ≤ n → 0 ≤ a → Form out → (∀ y ∈ out, y.To ≤ a) →
    2 * out.length + cnt (bds (l ++ but)) a + flagS out a ≤ 2 * (l.length + but.length) → (∀ p, spMem p out ↔ p < a ∧ Want l but p) →
    ∃ o, Runs (joinedBody l but) (n + 2) (out, a, true) o ∧ Form o ∧ ∀ p, spMem p o ↔ Want l but p := by
  intro n
  induction n with
  | zero =>
    intro out a hn h0 hf hto hlen hm
    have hroom := hb
    unfold room at hroom
    have hne := next_eq35 a (l ++ but) (by simp; omega)
    obtain ⟨s1, s2⟩ := nextP_spec a (l ++ but)
    have hno : (nextP a (l ++ but)).2 = false := by
      cases h : (nextP a (l ++ but)).2 with
      | false => rfl
      | true =>
        obtain ⟨a1, a2, _⟩ := s1 h
        have := countP_less a1 a2
        omega
    have hall := s2 hno
    have habove : ∀ p, a ≤ p → ¬ inL p l := fun p hp => inL_above (fun b hb => hall b (by rw [bds_append]; exact List.mem_append_left _ hb)) hp
    refine ⟨out, .step (t := (out, (nextP a (l ++ but)).1, false)) ?_ (.stop rfl), hf, fun p => ?_⟩
    · unfold joinedBody
      refine if_of rfl (bnd_of hne ?_)
      rw [hno]
      refine bnd_of (a := false) (when_no rfl) (bnd_of (a := false) (when_no rfl) ?_)
      exact if_not (by simp) rfl
    · rw [hm p]
      constructor
      · exact fun h => h.2
      · intro h
        refine ⟨?_, h⟩
        apply Classical.byContradiction
        intro hge
        exact habove p (by omega) h.1
  | succ n ih =>
    intro out a hn h0 hf hto hlen hm
    have hroom := hb
    unfold room at hroom
    have hne := next_eq35 a (l ++ but) (by simp; omega)
    obtain ⟨s1, s2⟩ := nextP_spec a (l ++ but)
    cases hmore : (nextP a (l ++ but)).2 with
    | false =>
      have hall := s2 hmore
      have habove : ∀ p, a ≤ p → ¬ inL p l := fun p hp => inL_above (fun b hb => hall b (by rw [bds_append]; exact List.mem_append_left _ hb)) hp
      refine ⟨out, .step (t := (out, (nextP a (l ++ but)).1, false)) ?_ (.stop rfl), hf, fun p => ?_⟩
      · unfold joinedBody
        refine if_of rfl (bnd_of hne ?_)
        rw [hmore]
        refine bnd_of (a := false) (when_no rfl) (bnd_of (a := false) (when_no rfl) ?_)
        exact if_not (by simp) rfl
      · rw [hm p]
        constructor
        · exact fun h => h.2
        · intro h
          refine ⟨?_, h⟩
          apply Classical.byContradiction
          intro hge
          exact habove p (by omega) h.1
    | true =>
      obtain ⟨a1, a2, a3⟩ := s1 hmore
      generalize ht : (nextP a (l ++ but)).1 = t at a1 a2 a3
      have hcl := countP_less a1 a2
      have hc1 : ∀ p, a ≤ p → p < t → (inL p l ↔ inL a l) := fun p => inL_const fun b hb => a3 b (by rw [bds_append]; exact List.mem_append_left _ hb)
      have hc2 : ∀ p, a ≤ p → p < t → (inL p but ↔ inL a but) := fun p => inL_const fun b hb => a3 b (by rw [bds_append]; exact List.mem_append_right _ hb)
      have hs1 := some_eq35 a l (by omega)
      have hs2 := some_eq35 a but (by omega)
      have hw : ∀ p, a ≤ p → p < t → (Want l but p ↔ Want l but a) := fun p h1 h2 => by unfold Want; rw [hc1 p h1 h2, hc2 p h1 h2]
      -- the step
      have step : ∀ o, (if Want l but a then grow1 out a t = some o else o = out) → joinedBody l but (out, a, true) = some (.inl (o, t, true)) := fun o ho => by
        unfold joinedBody
        refine if_of rfl (bnd_of hne ?_)
        rw [hmore, ht]
        refine bnd_of (a := l.any (wiP a)) (when_of rfl hs1) ?_
        cases hl1 : l.any (wiP a) with
        | false =>
          have hnw : ¬ Want l but a := fun h => by have := (any_inL h0 l).2 h.1; rw [hl1] at this; cases this
          rw [if_neg hnw] at ho
          subst ho
          exact bnd_of (a := false) (when_no rfl) (if_not (by simp) rfl)
        | true =>
          refine bnd_of (a := but.any (wiP a)) (when_of rfl hs2) ?_
          cases hl2 : but.any (wiP a) with
          | true =>
            have hnw : ¬ Want l but a := fun h => h.2 ((any_inL h0 but).1 hl2)
            rw [if_neg hnw] at ho
            subst ho
            exact if_not (by simp) rfl
          | false =>
            have hyw : Want l but a := ⟨(any_inL h0 l).1 hl1, fun h => by have := (any_inL h0 but).2 h; rw [hl2] at this; cases this⟩
            rw [if_pos hyw] at ho
            exact if_of (by simp) (bnd_of ho rfl)
      by_cases hwa : Want l but a
      · -- [a, t) comes in
        have hg : ∃ o, grow1 out a t = some o ∧ Form o ∧ (∀ y ∈ o, y.To ≤ t) ∧ 2 * o.length + flagS o t ≤ 2 * out.length + 2 * flagS out a ∧ ∀ p, spMem p o ↔ spMem p out ∨ (a ≤ p ∧ p < t) := by
          rcases List.eq_nil_or_concat out with rfl | ⟨O, y, rfl⟩
          · have hfl : flagS [] a = 1 := rfl
            refine ⟨[⟨a, t⟩], need_of (by simp only [List.length_nil] at hlen ⊢; unfold room; omega) rfl, ⟨fun z hz => by rw [List.mem_singleton.1 hz]; exact ⟨h0, a2⟩, List.pairwise_singleton _ _⟩, fun z hz => by rw [List.mem_singleton.1 hz]; exact Int.le_refl _, ?_, fun p => ?_⟩
            · rw [hfl]
              have : flagS [(⟨a, t⟩ : api_Span)] t = 0 := by unfold flagS; simp
              rw [this]; simp
            rw [spMem_one]
            constructor
            · exact fun h => .inr h
            · rintro (⟨_, h, _⟩ | h)
              · cases h
              · exact h
          · rw [List.concat_eq_append] at hf hto hlen ⊢
            obtain ⟨f1, f2, f3⟩ := hf.init
            have hy := hto y (by simp)
            have hlast : (O ++ [y]).getLast? = some y := by simp
            rw [flagS_snoc] at hlen ⊢
            have hol : (O ++ [y]).length = O.length + 1 := by simp
            rw [hol] at hlen ⊢
            by_cases he : y.To = a
            · rw [if_pos he] at hlen ⊢
              refine ⟨O ++ [⟨y.From, t⟩], ?_, f1.snoc ⟨f2.1, by show y.From < t; omega⟩ f3, fun z hz => ?_, ?_, fun p => ?_⟩
              · unfold grow1
                refine need_of (by rw [hol]; unfold room; omega) ?_
                rw [hlast]
                show some (if y.To = a then _ else _) = _
                rw [if_pos he]
                simp
              · rcases List.mem_append.1 hz with hz | hz
                · have := hto z (List.mem_append_left _ hz); omega
                · rw [List.mem_singleton.1 hz]; exact Int.le_refl _
              · rw [flagS_snoc, if_pos rfl]; simp
              · rw [spMem_append, spMem_append, spMem_one, spMem_one, or_assoc]
                have : spIn p ⟨y.From, t⟩ ↔ spIn p y ∨ (a ≤ p ∧ p < t) := by
                  unfold spIn
                  have := f2.2
                  show (y.From ≤ p ∧ p < t) ↔ _
                  omega
                rw [this]
            · rw [if_neg he] at hlen ⊢
              refine ⟨O ++ [y] ++ [⟨a, t⟩], ?_, hf.snoc ⟨h0, a2⟩ (fun z hz => ?_), fun z hz => ?_, ?_, fun p => ?_⟩
              · unfold grow1
                refine need_of (by rw [hol]; unfold room; omega) ?_
                rw [hlast]
                show some (if y.To = a then _ else _) = _
                rw [if_neg he]
              · rcases List.mem_append.1 hz with hz | hz
                · have := f3 z hz; have := f2.2
                  show z.To < a; omega
                · rw [List.mem_singleton.1 hz]; show y.To < a; omega
              · rcases List.mem_append.1 hz with hz | hz
                · have := hto z hz; omega
                · rw [List.mem_singleton.1 hz]; exact Int.le_refl _
              · rw [flagS_snoc, if_pos rfl]; simp; omega
              · rw [spMem_append, spMem_one]; rfl
        obtain ⟨o, g1, g2, g3, g4, g5⟩ := hg
        obtain ⟨r, r1, r2, r3⟩ := ih o t (by omega) (by omega) g2 g3 (by have := flagS_le out a; omega) (fun p => by
          rw [g5, hm p]
          constructor
          · rintro (⟨h1, h2⟩ | ⟨h1, h2⟩)
            · exact ⟨by omega, h2⟩
            · exact ⟨h2, (hw p h1 h2).2 hwa⟩
          · rintro ⟨h1, h2⟩
            by_cases hpa : p < a
            · exact .inl ⟨hpa, h2⟩
            · exact .inr ⟨by omega, h1⟩)
        exact ⟨r, .step (step o (by rw [if_pos hwa]; exact g1)) r1, r2, r3⟩
      · obtain ⟨r, r1, r2, r3⟩ := ih out t (by omega) (by omega) hf (fun y hy => by have := hto y hy; omega) (by have := flagS_le out t; omega) (fun p => by
          rw [hm p]
          constructor
          · rintro ⟨h1, h2⟩; exact ⟨by omega, h2⟩
          · rintro ⟨h1, h2⟩
            refine ⟨?_, h2⟩
            apply Classical.byContradiction
            intro hge
            exact hwa ((hw p (by omega) h1).1 h2))
        exact ⟨r, .step (step out (by rw [if_neg hwa])) r1, r2, r3⟩
theorem joined_eq (l but : List api_Span) (hb : (l.length + but.length) * 16 ≤ room) : ∃ o, ref35_Joined l but = some o ∧ Form o ∧ ∀ p, spMem p o ↔ Want l but p := by
  have hroom := hb
  unfold room at hroom
  have hne := next_eq35 (-1) (l ++ but) (by simp; omega)
  obtain ⟨s1, s2⟩ := nextP_spec (-1) (l ++ but)
  have hlen := bds_len (l ++ but)
  rw [List.length_append] at hlen
  cases hmore : (nextP (-1) (l ++ but)).2 with
  | false =>
    have hall := s2 hmore
    refine ⟨[], ?_, ⟨fun x hx => (by cases hx), .nil⟩, fun p => ?_⟩
    · unfold ref35_Joined
      refine need_of (by unfold room; omega) (need_of hb (bnd_of hne ?_))
      rw [hmore]
      exact Runs.iter (m := 1) (.stop rfl) (by decide)
    · constructor
      · rintro ⟨_, h, _⟩; cases h
      · rintro ⟨⟨x, hx, hv, _⟩, _⟩
        have h5 := spV_iff.1 hv
        have := hall x.From (mem_bds.2 ⟨x, List.mem_append_left _ hx, hv, .inl rfl⟩)
        omega
  | true =>
    obtain ⟨a1, a2, a3⟩ := s1 hmore
    have hcount : cnt (bds (l ++ but)) (nextP (-1) (l ++ but)).1 ≤ (bds (l ++ but)).length := cnt_le _ _
    obtain ⟨r, r1, r2, r3⟩ := joined_runs l but hb _ [] (nextP (-1) (l ++ but)).1 (Nat.le_refl _) (by omega) ⟨fun x hx => (by cases hx), .nil⟩ (fun y hy => (by cases hy)) (by have := countP_lt_len a1; have e : flagS [] (nextP (-1) (l ++ but)).1 = 1 := rfl; rw [e]; simp; omega) (fun p => by
      constructor
      · rintro ⟨_, h, _⟩; cases h
      · rintro ⟨h1, h2⟩
        exact (inL_below (fun b hb => a3 b (by rw [bds_append]; exact List.mem_append_left _ hb)) h1 h2.1).elim)
    refine ⟨r, ?_, r2, r3⟩
    unfold ref35_Joined
    refine need_of (by unfold room; omega) (need_of hb (bnd_of hne ?_))
    rw [hmore]
    exact r1.iter (by omega)
end Go.AB
end
