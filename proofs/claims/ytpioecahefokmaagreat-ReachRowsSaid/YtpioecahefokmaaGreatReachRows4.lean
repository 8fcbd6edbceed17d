/- A part of the proof: Ab23, Ty1, Ty2, Ty3, Ab24, Row, Pure1, Mix2, Val1, Ovl, Val2, Val3, It, Ab25. -/
import Derived.Test.YtpioecahefokmaaGreatReachRows3
import Derived.ProofKit
import Derived.Test.YtpioecahefokmaaGreatReachRows1
import Derived.Test.YtpioecahefokmaaGreatProg
import Derived.KernelRfl
import Derived.Laws.Externs
set_option linter.unusedSimpArgs false
set_option linter.unusedVariables false
section
namespace Go.AB
open Go Go.RowKit

/-- At a law's start: nothing that is there may change. -/
def rowsOf (w : World) (b : Nat) : Nat := match w.heap[b]? with
  | some (.cells c _ _) => c.size
  | _ => 0
def noStore : Store := fun _ => none

section
variable {P : Program} {w w' : World}

theorem law_calls {f : FuncId} {args : List AV} {vs : Array Value} (hf : FN P f args noStore fun rs _ => rs = [.bool true]) (ha : ArgsR w (rowsOf w) args vs) :
    Calls P f vs w fun e w' => e = .returned (.bool true) ∧ Below w.heap.size w w' := by
  refine (hf ⟨rowsOf w, fun _ => .none⟩ w vs ⟨fun _ _ => rfl, fun b hb => ?_⟩ (fun b => .inl rfl) (fun b o h => by cases h) ha).mono fun e w' ⟨v, rs, s', G', he, hq, _, _, hr, hp⟩ => ?_
  · show rowsOf w b = 0
    unfold rowsOf
    rw [Array.getElem?_eq_none hb]
  · subst hq
    refine ⟨?_, ⟨hp.os, hp.tape, hp.output, hp.size, fun b hb => hp.frame b hb (.inr rfl)⟩⟩
    rw [he]
    have := VR.inv_bool hr.1
    rw [this]

end
end Go.AB
end

section
namespace Go.AB
open Go

theorem views_append (a b : List AV) : views (a ++ b) = views a ++ views b := by simp [views]
theorem views_flatten : ∀ l : List (List AV), (∀ x ∈ l, views x = x) → views l.flatten = l.flatten
  | [], _ => rfl
  | a :: l, h => by rw [List.flatten_cons, views_append, h a List.mem_cons_self, views_flatten l fun x hx => h x (List.mem_cons_of_mem _ hx)]

class Enc (α : Type) where
  w : Nat
  cells : α → List AV
  zero : α
  pos : 0 < w
  len : ∀ x, (cells x).length = w
  vw : ∀ x, views (cells x) = cells x

/-- A string. -/
structure Str where
  b : List UInt8
  deriving DecidableEq, Inhabited

section
variable {α : Type} [Enc α]
/-- A row of values as cells. -/
def flat (l : List α) : List AV := (l.map Enc.cells).flatten
def ix (l : List α) (i : Int) : α := l.getD i.toNat Enc.zero

theorem flat_len : ∀ l : List α, (flat l).length = l.length * Enc.w α
  | [] => by simp [flat]
  | a :: l => by
    have := flat_len l
    simp only [flat, List.map_cons, List.flatten_cons, List.length_append, Enc.len] at this ⊢
    rw [this, List.length_cons, Nat.add_mul, Nat.one_mul, Nat.add_comm]
@[go_sem] theorem flat_nil : flat ([] : List α) = [] := rfl
@[go_sem] theorem flat_cons (a : α) (l : List α) : flat (a :: l) = Enc.cells a ++ flat l := rfl
@[go_sem] theorem flat_append (a b : List α) : flat (a ++ b) = flat a ++ flat b := by simp [flat]
@[go_sem] theorem flat_views (l : List α) : views (flat l) = flat l := views_flatten _ fun x hx => by
  obtain ⟨y, _, rfl⟩ := List.mem_map.1 hx
  exact Enc.vw y
theorem flat_drop (l : List α) : ∀ k, (flat l).drop (k * Enc.w α) = flat (l.drop k) := by
  induction l with
  | nil => intro k; simp [flat]
  | cons a l ih => intro k; cases k with
    | zero => simp
    | succ k =>
      rw [flat_cons, List.drop_succ_cons, ← ih k, Nat.succ_mul, Nat.add_comm, ← List.drop_drop]
      congr 1
      rw [← Enc.len a, List.drop_left]
theorem flat_take (l : List α) : ∀ k, (flat l).take (k * Enc.w α) = flat (l.take k) := by
  induction l with
  | nil => intro k; simp [flat]
  | cons a l ih => intro k; cases k with
    | zero => simp [flat_nil]
    | succ k =>
      rw [flat_cons, List.take_succ_cons, flat_cons, ← ih k, Nat.succ_mul, Nat.add_comm, List.take_append]
      rw [Enc.len a, List.take_of_length_le (by rw [Enc.len]; omega)]
      congr 2
      omega
theorem flat_sub (l : List α) (n lo m : Nat) (hn : n = Enc.w α) : AB.sub (flat l) (lo * n) (m * n) = flat ((l.drop lo).take m) := by
  subst hn
  unfold AB.sub
  rw [flat_drop, flat_take]
theorem flat_pad (z : List AV) (n : Nat) (l : List α) (i : Int) (hz : z = Enc.cells (Enc.zero : α)) (hn : n = Enc.w α) : pad z (views (AB.sub (flat l) (i.toNat * n) n)) = Enc.cells (ix l i) := by
  subst hn
  have h1 : AB.sub (flat l) (i.toNat * Enc.w α) (Enc.w α) = flat ((l.drop i.toNat).take 1) := by
    have := flat_sub l (Enc.w α) i.toNat 1 rfl
    rwa [Nat.one_mul] at this
  rw [h1, flat_views]
  unfold pad ix
  rcases Nat.lt_or_ge i.toNat l.length with hlt | hge
  · rw [List.drop_eq_getElem_cons hlt, List.take_succ_cons, List.take_zero, flat_cons, flat_nil, List.append_nil, hz, Enc.len, Enc.len, beq_self_eq_true]
    simp [List.getD, List.getElem?_eq_getElem hlt]
  · rw [List.drop_eq_nil_of_le hge, List.take_nil, flat_nil, hz, Enc.len]
    have : (([] : List AV).length == Enc.w α) = false := by
      have := Enc.pos (α := α)
      simp; omega
    rw [this]
    simp [List.getD, List.getElem?_eq_none hge]
/-- A row's part. -/
def part (l : List α) (lo hi : Int) : List α := (l.drop lo.toNat).take (hi - lo).toNat
theorem flat_part (n : Nat) (l : List α) (lo hi : Int) (hn : n = Enc.w α) : AB.sub (flat l) (lo.toNat * n) ((hi - lo).toNat * n) = flat (part l lo hi) := flat_sub l n _ _ hn
theorem flat_div (n : Nat) (l : List α) (hn : n = Enc.w α) : (flat l).length / n = l.length := by
  subst hn
  rw [flat_len]; exact Nat.mul_div_cancel _ Enc.pos
end

instance : Enc Bool := ⟨1, fun b => [.bool b], false, Nat.one_pos, fun _ => rfl, fun _ => rfl⟩
instance : Enc Int := ⟨1, fun n => [.int .i64 n], 0, Nat.one_pos, fun _ => rfl, fun _ => rfl⟩
instance : Enc UInt8 := ⟨1, fun n => [.int .u8 n.toNat], 0, Nat.one_pos, fun _ => rfl, fun _ => rfl⟩
instance : Enc UInt32 := ⟨1, fun n => [.int .u32 n.toNat], 0, Nat.one_pos, fun _ => rfl, fun _ => rfl⟩
instance : Enc UInt64 := ⟨1, fun n => [.int .u64 n.toNat], 0, Nat.one_pos, fun _ => rfl, fun _ => rfl⟩
instance : Enc Str := ⟨1, fun s => [.str s.b], ⟨[]⟩, Nat.one_pos, fun _ => rfl, fun _ => rfl⟩
instance {α : Type} [Enc α] : Enc (List α) := ⟨1, fun l => [.sl false (Enc.w α) l.length (flat l)], [], Nat.one_pos, fun _ => rfl, fun _ => rfl⟩
@[go_sem] theorem cells_bool (x : Bool) : Enc.cells x = [.bool x] := rfl
@[go_sem] theorem cells_int (x : Int) : Enc.cells x = [.int .i64 x] := rfl
@[go_sem] theorem cells_u8 (x : UInt8) : Enc.cells x = [.int .u8 x.toNat] := rfl
@[go_sem] theorem cells_u32 (x : UInt32) : Enc.cells x = [.int .u32 x.toNat] := rfl
@[go_sem] theorem cells_u64 (x : UInt64) : Enc.cells x = [.int .u64 x.toNat] := rfl
@[go_sem] theorem cells_str (x : Str) : Enc.cells x = [.str x.b] := rfl
@[go_sem] theorem cells_list {α : Type} [Enc α] (x : List α) : Enc.cells x = [.sl false (Enc.w α) x.length (flat x)] := rfl
@[go_sem] theorem w_bool : Enc.w Bool = 1 := rfl
@[go_sem] theorem w_int : Enc.w Int = 1 := rfl
@[go_sem] theorem w_u8 : Enc.w UInt8 = 1 := rfl
@[go_sem] theorem w_u32 : Enc.w UInt32 = 1 := rfl
@[go_sem] theorem w_u64 : Enc.w UInt64 = 1 := rfl
@[go_sem] theorem w_str : Enc.w Str = 1 := rfl
@[go_sem] theorem w_list {α : Type} [Enc α] : Enc.w (List α) = 1 := rfl
@[go_sem] theorem pad_bool (l : List Bool) (i : Int) : pad [.bool false] (views (AB.sub (flat l) (i.toNat * 1) 1)) = [.bool (ix l i)] := flat_pad _ 1 l i rfl rfl
@[go_sem] theorem pad_int (l : List Int) (i : Int) : pad [.int .i64 0] (views (AB.sub (flat l) (i.toNat * 1) 1)) = [.int .i64 (ix l i)] := flat_pad _ 1 l i rfl rfl
@[go_sem] theorem pad_u8 (l : List UInt8) (i : Int) : pad [.int .u8 0] (views (AB.sub (flat l) (i.toNat * 1) 1)) = [.int .u8 (ix l i).toNat] := flat_pad _ 1 l i rfl rfl
@[go_sem] theorem pad_u32 (l : List UInt32) (i : Int) : pad [.int .u32 0] (views (AB.sub (flat l) (i.toNat * 1) 1)) = [.int .u32 (ix l i).toNat] := flat_pad _ 1 l i rfl rfl
@[go_sem] theorem pad_str (l : List Str) (i : Int) : pad [.str []] (views (AB.sub (flat l) (i.toNat * 1) 1)) = [.str (ix l i).b] := flat_pad _ 1 l i rfl rfl
@[go_sem] theorem pad_list {α : Type} [Enc α] (l : List (List α)) (i : Int) (n : Nat) (hn : n = Enc.w α) : pad [.sl false n 0 []] (views (AB.sub (flat l) (i.toNat * 1) 1)) = [.sl false (Enc.w α) (ix l i).length (flat (ix l i))] := by
  subst hn
  exact flat_pad _ 1 l i rfl rfl
end Go.AB
end

section
namespace Go.AB
open Go

/-- It comes to something that is so. -/
def ok {α : Type} (o : Option α) (K : α → Prop) : Prop := ∃ a, o = some a ∧ K a
/-- It goes on only where that holds. -/
def need {α : Type} (c : Prop) [Decidable c] (o : Option α) : Option α := if c then o else none
/-- What is reckoned only under a guard. -/
def whenB {α : Type} (g : Bool) (z : α) (o : Option α) : Option α := bif g then o else some z
def bnd {α β : Type} (o : Option α) (f : α → Option β) : Option β := match o with
  | some a => f a
  | none => none
def iterN {S O : Type} (body : S → Option (S ⊕ O)) : Nat → S → Option O
  | 0, _ => none
  | n + 1, s => match body s with
    | none => none
    | some (.inl t) => iterN body n t
    | some (.inr o) => some o
def iter {S O : Type} (body : S → Option (S ⊕ O)) (s : S) : Option O := iterN body 18446744073709551616 s
def caseS {A B C : Type} (f : A → C) (g : B → C) : A ⊕ B → C
  | .inl a => f a
  | .inr b => g b

section
variable {α β : Type} (K : α → Prop)
@[go_sem] theorem ok_some (a : α) : ok (some a) K = K a := by simp [ok]
@[go_sem] theorem ok_none : ok none K = False := by simp [ok]
@[go_sem] theorem ok_need (c : Prop) [Decidable c] (o : Option α) : ok (need c o) K = (c ∧ ok o K) := by
  unfold need
  by_cases h : c <;> simp [h, ok]
@[go_sem] theorem ok_bnd (o : Option β) (f : β → Option α) : ok (bnd o f) K = ok o (fun b => ok (f b) K) := by cases o <;> simp [bnd, ok]
@[go_sem] theorem ok_ite (c : Bool) (a b : Option α) : ok (if c = true then a else b) K = ((c = true → ok a K) ∧ (c = false → ok b K)) := by cases c <;> simp
theorem ok_when (g : Bool) (z : α) (o : Option α) : ok (whenB g z o) K = ∃ a, (g = true → o = some a) ∧ (g = false → a = z) ∧ K a := by
  cases g <;> simp [whenB, ok]
@[go_sem] theorem caseS_l {A B C : Type} (f : A → C) (g : B → C) (a : A) : caseS f g (.inl a) = f a := rfl
@[go_sem] theorem caseS_r {A B C : Type} (f : A → C) (g : B → C) (b : B) : caseS f g (.inr b) = g b := rfl
end

theorem and_to {A B C D : Prop} (h : A → C) (k : B → D) : A ∧ B → C ∧ D := fun x => ⟨h x.1, k x.2⟩
theorem im_to {p A B : Prop} (h : A → B) : (p → A) → p → B := fun x y => h (x y)
theorem tt_to {A : Prop} : A → A := fun h => h
/-- Under what the guard says. -/
theorem im_to' {p A B : Prop} (h : p → A → B) : (p → A) → p → B := fun x y => h y (x y)

variable {P : Program}

/-- A call. -/
theorem call_to {β : Type} {o : Option β} {kf : β → Prop} {f : FuncId} {as1 : List AV} {s : Store} {enc : β → List AV} {Q : List AV → Store → Prop}
    (hf : ∀ r, o = some r → FE P f as1 s (enc r) s) (hk : ∀ r, kf r → Q (enc r) s) : ok o kf → FN P f as1 s Q := fun ⟨r, h, k⟩ => FE.app (hf r h) (hk r k)
theorem call_to_q {β : Type} {o : Option β} {kf : β → Prop} {f : FuncId} {as1 : List AV} {s : Store} {enc : β → List AV} {Q : List AV → Prop}
    (hf : ∀ r, o = some r → FE P f as1 s (enc r) s) (hr : ∀ r, rsOK (enc r) = true) (hk : ∀ r, kf r → Q (enc r)) : ok o kf → ∃ rs, rsOK rs = true ∧ FE P f as1 s rs s ∧ Q rs :=
  fun ⟨r, h, k⟩ => ⟨enc r, hr r, hf r h, hk r k⟩
theorem call_to_g {β : Type} {g : Bool} {z : β} {o : Option β} {kf : β → Prop} {f : FuncId} {as1 : Option (List AV)} {as2 : List AV} {s : Store} {enc : β → List AV} {Q : List AV → Prop}
    (ha : as1 = some as2) (hf : ∀ r, o = some r → FE P f as2 s (enc r) s) (hr : ∀ r, rsOK (enc r) = true) (hk : ∀ r, kf r → Q (enc r)) :
    ok (whenB g z o) kf → ∃ rs, rsOK rs = true ∧ (g = true → ∃ as2, as1 = some as2 ∧ FE P f as2 s rs s) ∧ Q rs := fun h => by
  rw [ok_when] at h
  obtain ⟨r, h1, _, k⟩ := h
  exact ⟨enc r, hr r, fun hg => ⟨as2, ha, hf r (h1 hg)⟩, hk r k⟩

/-- As ok: where ways meet it stays whole. -/
def okj {α : Type} (o : Option α) (K : α → Prop) : Prop := ok o K
/-- As bnd: where ways meet. -/
def jn {α β : Type} (o : Option α) (f : α → Option β) : Option β := bnd o f
@[go_sem] theorem ok_jn {α β : Type} (K : α → Prop) (o : Option β) (f : β → Option α) : ok (jn o f) K = okj o (fun b => ok (f b) K) := ok_bnd ..
/-- Where ways meet. -/
theorem join_to {X : Type} {M : Option X} {kf : X → Prop} {live : List (Nat × Bool)} {a b : IC} {Q : Exit → St → Prop} {σ : St} (enc : X → St)
    (ha : ∀ J : St → Prop, ok M (fun x => J (enc x)) → cwp P a (joinK live J Q) σ) (hb : ∀ x, kf x → cwp P b Q (enc x)) : okj M kf → cwp P (.join live a b) Q σ := fun ⟨x, h, k⟩ =>
  ⟨fun τ => ∃ x, τ = enc x ∧ kf x, ha _ ⟨x, h, x, rfl, k⟩, fun _ ⟨x, e, k⟩ => e ▸ hb x k⟩

theorem iterN_zero {S O : Type} {body : S → Option (S ⊕ O)} {s : S} {K : O → Prop} : ¬ ok (iterN body 0 s) K := fun ⟨_, h, _⟩ => by cases h
theorem iterN_succ {S O : Type} {body : S → Option (S ⊕ O)} {n : Nat} {s : S} {K : O → Prop} (h : ok (iterN body (n + 1) s) K) : ok (body s) (caseS (fun t => ok (iterN body n t) K) K) := by
  obtain ⟨o, h, k⟩ := h
  unfold iterN at h
  cases hb : body s with
  | none => rw [hb] at h; cases h
  | some x =>
    rw [hb] at h
    cases x with
    | inl t => exact ⟨_, rfl, ⟨o, h, k⟩⟩
    | inr o' => cases h; exact ⟨_, rfl, k⟩

theorem loopK_join {live : List (Nat × Bool)} {I : St → Prop} {μ : St → Nat} {m : Nat} {Q : Exit → St → Prop} : loopK live I μ m Q = joinK live (fun ρ => I ρ ∧ μ ρ < m) Q := by
  funext x ρ; cases x <;> rfl

/-- A loop. -/
theorem iter_to {S O : Type} {body : S → Option (S ⊕ O)} {s0 : S} {kf : O → Prop} {live : List (Nat × Bool)} {b : IC} {Q : Exit → St → Prop} {σ : St} (enc : S → St)
    (h0 : σ.keepV live = enc s0)
    (hb : ∀ (J : St → Prop) (s : S), ok (body s) (caseS (fun t => J (enc t)) kf) → cwp P b (joinK live J Q) (enc s)) : ok (iter body s0) kf → cwp P (.loop live b) Q σ := by
  intro h
  have hmin : ∀ τ, (∃ m s, τ = enc s ∧ ok (iterN body m s) kf) → ∃ m, (∃ s, τ = enc s ∧ ok (iterN body m s) kf) ∧ ∀ k, k < m → ¬ ∃ s, τ = enc s ∧ ok (iterN body k s) kf := by
    rintro τ ⟨m, s, h⟩
    induction m using Nat.strongRecOn generalizing s with
    | _ m ih =>
      by_cases hk : ∃ k, k < m ∧ ∃ s, τ = enc s ∧ ok (iterN body k s) kf
      · obtain ⟨k, hk, s', h'⟩ := hk
        exact ih k hk s' h'
      · exact ⟨m, ⟨s, h⟩, fun k hk' hs => hk ⟨k, hk', hs⟩⟩
  have hμ : ∃ μ : St → Nat, ∀ τ, (∃ m s, τ = enc s ∧ ok (iterN body m s) kf) → (∃ s, τ = enc s ∧ ok (iterN body (μ τ) s) kf) ∧ ∀ k, k < μ τ → ¬ ∃ s, τ = enc s ∧ ok (iterN body k s) kf := by
    exact ⟨fun τ => Classical.epsilon fun m => (∃ s, τ = enc s ∧ ok (iterN body m s) kf) ∧ ∀ k, k < m → ¬ ∃ s, τ = enc s ∧ ok (iterN body k s) kf, fun τ hτ => Classical.epsilon_spec (hmin τ hτ)⟩
  obtain ⟨μ, hμ⟩ := hμ
  refine ⟨fun τ => ∃ m s, τ = enc s ∧ ok (iterN body m s) kf, μ, ?_, ?_⟩
  · exact ⟨_, s0, h0, h⟩
  · intro τ hτ
    obtain ⟨⟨s, e, hs⟩, _⟩ := hμ τ hτ
    generalize hm : μ τ = m at hs
    cases m with
    | zero => exact (iterN_zero hs).elim
    | succ m =>
      subst e
      rw [loopK_join]
      obtain ⟨x, hx, k⟩ := iterN_succ hs
      refine hb _ s ⟨x, hx, ?_⟩
      cases x with
      | inr o => exact k
      | inl t =>
        refine ⟨⟨m, t, rfl, k⟩, ?_⟩
        have h2 := (hμ (enc t) ⟨m, t, rfl, k⟩).2
        rcases Nat.lt_or_ge m (μ (enc t)) with hlt | hge
        · exact (h2 m hlt ⟨t, rfl, k⟩).elim
        · omega

/-- Where ways meet, and others lead out. -/
def bndS {X Y α : Type} (M : Option (X ⊕ Y)) (F : X → Option α) (G : Y → Option α) : Option α := match M with
  | some (.inl x) => F x
  | some (.inr y) => G y
  | none => none
@[go_sem] theorem ok_bndS {X Y α : Type} (M : Option (X ⊕ Y)) (F : X → Option α) (G : Y → Option α) (K : α → Prop) : ok (bndS M F G) K = ok M (caseS (fun x => ok (F x) K) (fun y => ok (G y) K)) := by
  cases M with
  | none => simp [bndS, ok]
  | some x => cases x <;> simp [bndS, ok, caseS]
def jnS {X Y α : Type} (M : Option (X ⊕ Y)) (F : X → Option α) (G : Y → Option α) : Option α := bndS M F G
@[go_sem] theorem ok_jnS {X Y α : Type} (M : Option (X ⊕ Y)) (F : X → Option α) (G : Y → Option α) (K : α → Prop) : ok (jnS M F G) K = okj M (caseS (fun x => ok (F x) K) (fun y => ok (G y) K)) := ok_bndS ..
theorem join_toS {X Y : Type} {M : Option (X ⊕ Y)} {kf : X → Prop} {kr : Y → Prop} {live : List (Nat × Bool)} {a b : IC} {Q : Exit → St → Prop} {σ : St} (enc : X → St)
    (ha : ∀ J : St → Prop, ok M (caseS (fun x => J (enc x)) kr) → cwp P a (joinK live J Q) σ) (hb : ∀ x, kf x → cwp P b Q (enc x)) : okj M (caseS kf kr) → cwp P (.join live a b) Q σ := fun ⟨x, h, k⟩ => by
  refine ⟨fun τ => ∃ x, τ = enc x ∧ kf x, ha _ ⟨x, h, ?_⟩, fun _ ⟨x, e, k⟩ => e ▸ hb x k⟩
  cases x with
  | inl x => exact ⟨x, rfl, k⟩
  | inr y => exact k

def appO {α : Type} : Option (List α) → Option (List α) → Option (List α)
  | some a, some b => some (a ++ b)
  | _, _ => none
@[go_sem] theorem appO_some {α : Type} (a b : List α) : appO (some a) (some b) = some (a ++ b) := rfl
@[go_sem] theorem byteOf_u8 (c : UInt8) : byteOf (.int .u8 c.toNat) = some c := by
  unfold byteOf
  have := c.toNat_lt
  simp only [Int.natCast_nonneg, true_and, Int.toNat_natCast]
  rw [if_pos (by omega)]
  simp
@[go_sem] theorem bytesOf_nil : bytesOf [] = some [] := rfl
@[go_sem] theorem bytesOf_cons (a : AV) (l : List AV) : bytesOf (a :: l) = consO (byteOf a) (bytesOf l) := rfl
@[go_sem] theorem bytesOf_append (a : List AV) : ∀ b, bytesOf (a ++ b) = appO (bytesOf a) (bytesOf b) := by
  induction a with
  | nil => intro b; cases h : bytesOf b <;> simp [bytesOf, appO, h]
  | cons x a ih =>
    intro b
    rw [List.cons_append, bytesOf_cons, bytesOf_cons, ih b]
    cases byteOf x <;> cases bytesOf a <;> cases bytesOf b <;> rfl
@[go_sem] theorem bytesOf_flat : ∀ l : List UInt8, bytesOf (flat l) = some l
  | [] => rfl
  | c :: l => by
    rw [flat_cons]
    show consO (byteOf (.int .u8 c.toNat)) (bytesOf (flat l)) = _
    rw [byteOf_u8, bytesOf_flat l]; rfl
@[go_sem] theorem map_flat (l : List UInt8) : (l.map fun c => AV.int .u8 c.toNat) = flat l := by
  induction l with
  | nil => rfl
  | cons a l ih => rw [List.map_cons, ih]; rfl

def w64 (n : Int) : Int := IntKind.i64.wrap n
def u8w (n : Int) : UInt8 := UInt8.ofNat (IntKind.u8.wrap n).toNat
def u32w (n : Int) : UInt32 := UInt32.ofNat (IntKind.u32.wrap n).toNat
def u64w (n : Int) : UInt64 := UInt64.ofNat (IntKind.u64.wrap n).toNat
@[go_sem] theorem wrap_w64 (n : Int) : wrapI .i64 n = w64 n := rfl
theorem wrapU (k : IntKind) (n : Int) (hk : k.signed = false) : k.wrap n = n % (2 ^ k.bits : Int) := by
  unfold IntKind.wrap
  simp [hk]
@[go_sem] theorem wrap_u8 (n : Int) : wrapI .u8 n = (u8w n).toNat := by
  show IntKind.u8.wrap n = ((UInt8.ofNat (IntKind.u8.wrap n).toNat).toNat : Int)
  rw [wrapU _ _ rfl, UInt8.toNat_ofNat']
  have : (2 ^ IntKind.u8.bits : Int) = 256 := by decide
  rw [this]
  omega
@[go_sem] theorem wrap_u32 (n : Int) : wrapI .u32 n = (u32w n).toNat := by
  show IntKind.u32.wrap n = ((UInt32.ofNat (IntKind.u32.wrap n).toNat).toNat : Int)
  rw [wrapU _ _ rfl, UInt32.toNat_ofNat']
  have : (2 ^ IntKind.u32.bits : Int) = 4294967296 := by decide
  rw [this]
  omega
@[go_sem] theorem wrap_u64 (n : Int) : wrapI .u64 n = (u64w n).toNat := by
  show IntKind.u64.wrap n = ((UInt64.ofNat (IntKind.u64.wrap n).toNat).toNat : Int)
  rw [wrapU _ _ rfl, UInt64.toNat_ofNat']
  have : (2 ^ IntKind.u64.bits : Int) = 18446744073709551616 := by decide
  rw [this]
  omega
def shlI (k : IntKind) (a b : Int) : Int := a * 2 ^ (min b.toNat k.bits)
def shrI (k : IntKind) (a b : Int) : Int := a.fdiv (2 ^ (min b.toNat k.bits))
def andI (k : IntKind) (a b : Int) : Int := (BitVec.ofInt k.bits a &&& BitVec.ofInt k.bits b).toNat
def orI (k : IntKind) (a b : Int) : Int := (BitVec.ofInt k.bits a ||| BitVec.ofInt k.bits b).toNat
def xorI (k : IntKind) (a b : Int) : Int := (BitVec.ofInt k.bits a ^^^ BitVec.ofInt k.bits b).toNat
def andNotI (k : IntKind) (a b : Int) : Int := (BitVec.ofInt k.bits a &&& ~~~BitVec.ofInt k.bits b).toNat
theorem shl_eq (k : IntKind) (a b : Int) : a * 2 ^ (min b.toNat k.bits) = shlI k a b := rfl
@[go_sem] theorem binI_shl (k k' : IntKind) (a b : Int) : binI .shl k k' a b = .prt (0 ≤ b) (.int k (wrapI k (shlI k a b))) := rfl
@[go_sem] theorem binI_shr (k k' : IntKind) (a b : Int) : binI .shr k k' a b = .prt (0 ≤ b) (.int k (shrI k a b)) := rfl
@[go_sem] theorem binI_and (k k' : IntKind) (a b : Int) : binI .and k k' a b = kk k k' (.tot (.int k (wrapI k (andI k a b)))) := rfl
@[go_sem] theorem binI_or (k k' : IntKind) (a b : Int) : binI .or k k' a b = kk k k' (.tot (.int k (wrapI k (orI k a b)))) := rfl
@[go_sem] theorem binI_xor (k k' : IntKind) (a b : Int) : binI .xor k k' a b = kk k k' (.tot (.int k (wrapI k (xorI k a b)))) := rfl
@[go_sem] theorem binI_andNot (k k' : IntKind) (a b : Int) : binI .andNot k k' a b = kk k k' (.tot (.int k (wrapI k (andNotI k a b)))) := rfl
@[go_sem] theorem lit_nonneg (n : Nat) : ((0 : Int) ≤ @OfNat.ofNat Int n instOfNat) = True := eq_true (Int.natCast_nonneg n)
@[go_sem] theorem lit_ne (n : Nat) : ((@OfNat.ofNat Int (n + 1) instOfNat) ≠ 0) = True := eq_true (by show ((n + 1 : Nat) : Int) ≠ 0; omega)
@[go_sem] theorem getD_ix (l : List UInt8) (k : Int) : l.getD k.toNat 0 = ix l k := rfl
@[go_sem] theorem part_of (l : List UInt8) (lo hi : Int) : (l.drop lo.toNat).take (hi - lo).toNat = part l lo hi := rfl
attribute [go_sem] List.length_append true_or or_true eq_self_iff_true imp_self Bool.cond_true_left Bool.cond_false_right and_self and_true

/-- Operations, in short. -/
def mv (d x : Nat) : IOper := ⟨some d, .mov false (.t x), none⟩
def mt (d x : Nat) : IOper := ⟨some d, .mov true (.t x), none⟩
def mvg (d x t : Nat) (w : Bool) : IOper := ⟨some d, .mov false (.t x), some (t, w)⟩
def mtg (d x t : Nat) (w : Bool) : IOper := ⟨some d, .mov true (.t x), some (t, w)⟩
def i1 (d : Nat) (o : IOp) : IOper := ⟨some d, o, none⟩
def i1g (d t : Nat) (w : Bool) (o : IOp) : IOper := ⟨some d, o, some (t, w)⟩
def i0 (o : IOp) : IOper := ⟨none, o, none⟩
def i0g (t : Nat) (w : Bool) (o : IOp) : IOper := ⟨none, o, some (t, w)⟩
attribute [go_sem] mv mt mvg mtg i1 i1g i0 i0g
@[go_sem] theorem sub_cons (a : AV) (l : List AV) (off n : Nat) : AB.sub (a :: l) off n = ((a :: l).drop off).take n := rfl
attribute [go_sem] flat_part flat_div
@[go_sem] theorem lpReg_when (σ : St) (b : Bool) (a : AV) (d : Option Nat) : lpReg σ (.when b a) d = lpReg σ a d := by
  rw [lpReg]
end Go.AB
end

section
namespace Go.AB
open Go

def SubS (t s : Store) : Prop := ∀ b o, t b = some o → s b = some o
theorem SubS.refl (s : Store) : SubS s s := fun _ _ h => h
theorem SubS.trans {a b c : Store} (h : SubS a b) (k : SubS b c) : SubS a c := fun x o hx => k x o (h x o hx)
theorem SubS.set {t s : Store} {b : Nat} {o : SO} (h : SubS t s) (hb : t b = none) : SubS t (s.set b o) := fun c p hc => by
  unfold Store.set
  by_cases hcb : c = b
  · subst hcb; rw [hb] at hc; cases hc
  · rw [if_neg hcb]; exact h c p hc
theorem SubS.mono {t s : Store} {b : Nat} {o : SO} (h : SubS t s) : SubS (t.set b o) (s.set b o) := fun c p hc => by
  unfold Store.set at hc ⊢
  by_cases hcb : c = b
  · rw [if_pos hcb] at hc ⊢; exact hc
  · rw [if_neg hcb] at hc ⊢; exact h c p hc

variable {P : Program}
/-- What is no longer wanted is forgotten. -/
theorem FN.forget {f : FuncId} {args : List AV} {s : Store} {Q : List AV → Store → Prop} (h : FN P f args s fun rs t => ∃ t', SubS t' t ∧ Q rs t') : FN P f args s Q := by
  intro G w vs h1 h2 h3 h4
  refine (h G w vs h1 h2 h3 h4).mono fun e w' ⟨v, rs, s', G', a1, ⟨t', ht, hq⟩, a3, a4, a5⟩ => ⟨v, rs, t', G', a1, hq, a3, fun b o hb => a4 b o (ht b o hb), a5⟩

theorem set_same (s : Store) (b : Nat) (o : SO) : (s.set b o) b = some o := by simp [Store.set]
theorem set_ne {s : Store} {b c : Nat} {o : SO} (h : c ≠ b) : (s.set b o) c = s c := by simp [Store.set, h]
theorem set_set (s : Store) (b : Nat) (o p : SO) : (s.set b o).set b p = s.set b p := by
  funext c; unfold Store.set; by_cases h : c = b <;> simp [h]
theorem set_comm {a b : Nat} (h : a ≠ b) {s : Store} {o p : SO} : (s.set b p).set a o = (s.set a o).set b p := by
  funext c; unfold Store.set
  by_cases ha : c = a
  · subst ha; simp [h]
  · simp [ha]
theorem set_eq {s : Store} {b : Nat} {o : SO} (h : s b = some o) : s = s.set b o := by
  funext c; unfold Store.set
  by_cases hc : c = b
  · subst hc; simp [h]
  · simp [hc]
theorem set_eq' {s : Store} {b : Nat} {o : SO} (h : s b = some o) : s.set b o = s := (set_eq h).symm
theorem set_none (s : Store) (b c : Nat) (o : SO) : ((s.set b o) c = none) = (c ≠ b ∧ s c = none) := by
  unfold Store.set
  by_cases hc : c = b <;> simp [hc]
theorem ne_of_none {s : Store} {b c : Nat} {o : SO} (h : s b = some o) (hc : s c = none) : c ≠ b := fun e => by subst e; rw [h] at hc; cases hc
attribute [go_sem] set_same set_set

theorem ok_mono {α : Type} {o : Option α} {K K' : α → Prop} (h : ok o K) (hk : ∀ r, K r → K' r) : ok o K' := h.imp fun r ⟨h1, h2⟩ => ⟨h1, hk r h2⟩

section
variable (Q : Exit → St → Prop) (σ τ : St)
@[go_sem] theorem cwp_scope (b : IC) : cwp P (.scope b) Q σ = cwp P b (scopeK Q) σ := by
  have : (fun x τ => match x with | .goto _ => False | x => Q x τ) = scopeK Q := by
    funext e τ; cases e <;> rfl
  show cwp P b (fun x τ => match x with | .goto _ => False | x => Q x τ) σ = _
  rw [this]
@[go_sem] theorem scopeK_normal : scopeK Q .normal τ = Q .normal τ := rfl
@[go_sem] theorem scopeK_ret : scopeK Q .ret τ = Q .ret τ := rfl
@[go_sem] theorem scopeK_exit (i : Nat) : scopeK Q (.exit i) τ = Q (.exit i) τ := rfl
end

/-- An array's cell at a known place. -/
def aindexN (sz len n : Nat) (x : IX) : AV → PR
  | .lp d o => .prt (n + 1 ≤ len) (.lp d (o + n * sz))
  | .sp cs => bif decide (len * sz ≤ cs.length) then .prt (n + 1 ≤ len) (.sp (cs.drop (n * sz))) else .no
  | .ref b o => .prt (n + 1 ≤ len) (.ref b (o + n * sz))
  | .loc _ => locA (n + 1 ≤ len) (n * sz) x
  | _ => .no
theorem aindex_nat (sz len n : Nat) (x : IX) (k : IntKind) (av : AV) : aindexAddrV sz len x av (.int k (n : Int)) = aindexN sz len n x av := by
  have h : (0 ≤ (n : Int) ∧ (n : Int) < (len : Int)) = (n + 1 ≤ len) := by
    apply propext; constructor <;> intro h <;> omega
  cases av <;> first | rfl | simp only [aindexAddrV, aindexN, h, Int.toNat_natCast]
@[go_sem] theorem aindex_lit (sz len n : Nat) (x : IX) (k : IntKind) (av : AV) : aindexAddrV sz len x av (.int k (no_index (OfNat.ofNat n))) = aindexN sz len n x av := aindex_nat sz len n x k av
attribute [go_sem] aindexN.eq_1 aindexN.eq_2 aindexN.eq_3 aindexN.eq_4

/-- A row that is written in place: how long it says it is, and what it holds. -/
structure MSl (α : Type) where
  n : Nat
  l : List α

def updL {α : Type} (l : List α) (i : Int) (x : α) : List α := l.take i.toNat ++ [x] ++ l.drop (i.toNat + 1)
theorem flat_upd {α : Type} [Enc α] (l : List α) (i : Int) (x : α) (n : Nat) (hn : n = Enc.w α) : setAt (flat l) (i.toNat * n) (Enc.cells x) = flat (updL l i x) := by
  subst hn
  unfold setAt updL
  rw [flat_append, flat_append, flat_cons, flat_nil, List.append_nil, flat_take, Enc.len]
  congr 1
  rw [show i.toNat * Enc.w α + Enc.w α = (i.toNat + 1) * Enc.w α from by rw [Nat.add_mul, Nat.one_mul], flat_drop]
@[go_sem] theorem upd_int (l : List Int) (i x : Int) : setAt (flat l) (i.toNat * 1) [.int .i64 x] = flat (updL l i x) := flat_upd l i x 1 rfl
@[go_sem] theorem upd_u8 (l : List UInt8) (i : Int) (x : UInt8) : setAt (flat l) (i.toNat * 1) [.int .u8 x.toNat] = flat (updL l i x) := flat_upd l i x 1 rfl
@[go_sem] theorem upd_u32 (l : List UInt32) (i : Int) (x : UInt32) : setAt (flat l) (i.toNat * 1) [.int .u32 x.toNat] = flat (updL l i x) := flat_upd l i x 1 rfl
@[go_sem] theorem upd_bool (l : List Bool) (i : Int) (x : Bool) : setAt (flat l) (i.toNat * 1) [.bool x] = flat (updL l i x) := flat_upd l i x 1 rfl
@[go_sem] theorem setAt_cons (a : AV) (l : List AV) (off : Nat) (news : List AV) : setAt (a :: l) off news = (a :: l).take off ++ news ++ (a :: l).drop (off + news.length) := rfl
@[go_sem] theorem pad_cons (z : List AV) (a : AV) (l : List AV) : pad z (a :: l) = bif (a :: l).length == z.length then a :: l else z := rfl
@[go_sem] theorem rep_flat {α : Type} [Enc α] (n : Nat) (z : α) : (List.replicate n (Enc.cells z)).flatten = flat (List.replicate n z) := by simp [flat]

section
variable {d d' : Option Nat} {K : St → Prop} {σ : St} {b off : Nat} {news old : List AV}
@[go_sem] theorem stK_wrS : stK d K (wrS σ b (wrCells off news old)) = (off + news.length ≤ old.length ∧ K (({ σ with s := σ.s.set b (.cells (setAt old off news)) } : St).put d (.tup []))) := by
  unfold wrCells
  by_cases h : off + news.length ≤ old.length
  · simp [h, wrS, stK]
  · simp [h, wrS, stK]
@[go_sem] theorem stK_wrL {i : Nat} : stK d K (wrL σ i (wrCells off news old)) = (off + news.length ≤ old.length ∧ K ((σ.put (some i) (.loc (setAt old off news))).put d (.tup []))) := by
  unfold wrCells
  by_cases h : off + news.length ≤ old.length
  · simp [h, wrL, stK]
  · simp [h, wrL, stK]
end

theorem u8_inj (a b : UInt8) : ((a.toNat : Int) = (b.toNat : Int)) = (a = b) := by
  rw [Int.natCast_inj, UInt8.toNat_inj]
@[go_sem] theorem natCast_lit (n : Nat) : (((no_index (OfNat.ofNat n)) : Nat) : Int) = OfNat.ofNat n := rfl
@[go_sem] theorem u8_zero : ((UInt8.toNat 0 : Nat) : Int) = 0 := rfl
@[go_sem] theorem u8_one : ((UInt8.toNat 1 : Nat) : Int) = 1 := rfl
/-- A map as a list. -/
def mfind {κ ν : Type} [BEq κ] (m : List (κ × ν)) (k : κ) : Option ν := match m with
  | [] => none
  | x :: r => bif k == x.1 then some x.2 else mfind r k
def mget {κ ν : Type} [BEq κ] (z : ν) (m : List (κ × ν)) (k : κ) : ν := (mfind m k).getD z
def mhas {κ ν : Type} [BEq κ] (m : List (κ × ν)) (k : κ) : Bool := (mfind m k).isSome
def mput {κ ν : Type} [BEq κ] (m : List (κ × ν)) (k : κ) (v : ν) : List (κ × ν) := match m with
  | [] => [(k, v)]
  | x :: r => bif k == x.1 then (k, v) :: r else x :: mput r k v
def encM {κ ν : Type} (ek : κ → AV) (ev : ν → AV) (m : List (κ × ν)) : List (AV × AV) := m.map fun p => (ek p.1, ev p.2)
theorem keysOK_enc {κ ν : Type} {ek : κ → AV} {ev : ν → AV} {kk : KeyK} (h : ∀ a, keyOK kk (ek a) = true) (m : List (κ × ν)) : keysOK kk (encM ek ev m) = true := by
  unfold keysOK encM
  simp [h]
section
variable {κ ν : Type} [BEq κ] {ek : κ → AV} {ev : ν → AV}
theorem findK_enc (hk : ∀ a b, keyIs (ek a) (ek b) = (a == b)) (m : List (κ × ν)) (k : κ) : findK (ek k) (encM ek ev m) = (mfind m k).map ev := by
  induction m with
  | nil => rfl
  | cons x m ih =>
    show (bif keyIs (ek k) (ek x.1) then some (ev x.2) else findK (ek k) (encM ek ev m)) = _
    rw [hk, ih]
    show _ = (bif k == x.1 then some x.2 else mfind m k).map ev
    cases k == x.1 <;> rfl
theorem putK_enc (hk : ∀ a b, keyIs (ek a) (ek b) = (a == b)) (m : List (κ × ν)) (k : κ) (v : ν) : putK (ek k) (ev v) (encM ek ev m) = encM ek ev (mput m k v) := by
  induction m with
  | nil => rfl
  | cons x m ih =>
    show (bif keyIs (ek k) (ek x.1) then (ek k, ev v) :: encM ek ev m else (ek x.1, ev x.2) :: putK (ek k) (ev v) (encM ek ev m)) = _
    rw [hk, ih]
    show _ = encM ek ev (bif k == x.1 then (k, v) :: m else x :: mput m k v)
    cases k == x.1 <;> rfl
theorem lookupO_enc {kk : KeyK} {z : ν} {za : AV} (h : ∀ a, keyOK kk (ek a) = true) (hk : ∀ a b, keyIs (ek a) (ek b) = (a == b)) (hz : view za = ev z) (hv : ∀ a, view (ev a) = ev a) (hi : ∀ a, isV (ev a) = true) (ok : Bool) (m : List (κ × ν)) (k : κ) :
    lookupO kk za ok (ek k) (some (.map (encM ek ev m))) = .prt True (okV ok (ev (mget z m k)) (mhas m k)) := by
  show ckL ok (keyOK kk (ek k) = true ∧ keysOK kk (encM ek ev m) = true) (lookV za ok (findK (ek k) (encM ek ev m))) = _
  rw [findK_enc hk, h, keysOK_enc h]
  unfold mget mhas
  cases mfind m k with
  | none =>
    show ckL ok _ (okV ok (view za) false) = _
    rw [hz]
    cases ok <;> simp [ckL, plainL, okV, hi]
  | some v =>
    show ckL ok _ (okV ok (view (ev v)) true) = _
    rw [hv]
    cases ok <;> simp [ckL, plainL, okV, hi]
theorem updO_enc {kk : KeyK} {b : Nat} {σ : St} {d : Option Nat} {K : St → Prop} (h : ∀ a, keyOK kk (ek a) = true) (hk : ∀ a b, keyIs (ek a) (ek b) = (a == b)) (hkv : ∀ a, view (ek a) = ek a) (m : List (κ × ν)) (k : κ) (v : ν) (hv : view (ev v) = ev v) (hi : isV (ev v) = true) :
    updO kk b σ (ek k) (ev v) d K (some (.map (encM ek ev m))) = K ({ σ with s := σ.s.set b (.map (encM ek ev (mput m k v))) }.put d (.tup [])) := by
  show ((isV (ev v) = true ∧ keyOK kk (ek k) = true ∧ keysOK kk (encM ek ev m) = true) ∧ K ({ σ with s := σ.s.set b (.map (putK (view (ek k)) (view (ev v)) (encM ek ev m))) }.put d (.tup []))) = _
  rw [hkv, hv, putK_enc hk, h, keysOK_enc h, hi]
  simp
end
theorem keyIs_int (a b : Int) : keyIs (.int .i64 a) (.int .i64 b) = (a == b) := by simp [keyIs, cellsOf, keyEqs, keyEq]
theorem keyIs_str (a b : Str) : keyIs (.str a.b) (.str b.b) = (a == b) := by
  rw [Bool.eq_iff_iff]
  simp only [keyIs, cellsOf, keyEqs, keyEq, Bool.and_true, beq_iff_eq]
  cases a; cases b; simp

attribute [go_sem] mapUpdW.eq_1
@[go_sem] theorem encM_len {κ ν : Type} (ek : κ → AV) (ev : ν → AV) (m : List (κ × ν)) : (encM ek ev m).length = m.length := by simp [encM]
theorem encM_nil {κ ν : Type} (ek : κ → AV) (ev : ν → AV) : encM ek ev [] = [] := rfl
@[go_sem] theorem rep_int (n : Nat) : (List.replicate n [AV.int .i64 0]).flatten = flat (List.replicate n (0 : Int)) := rep_flat n (0 : Int)
@[go_sem] theorem rep_u8 (n : Nat) : (List.replicate n [AV.int .u8 0]).flatten = flat (List.replicate n (0 : UInt8)) := rep_flat n (0 : UInt8)
@[go_sem] theorem rep_u32 (n : Nat) : (List.replicate n [AV.int .u32 0]).flatten = flat (List.replicate n (0 : UInt32)) := rep_flat n (0 : UInt32)
@[go_sem] theorem rep_bool (n : Nat) : (List.replicate n [AV.bool false]).flatten = flat (List.replicate n false) := rep_flat n false
end Go.AB
end

section
namespace Go.AB
open Go

/-- Blocks of the store may become a value's. -/
def GhStep (G G2 : Gh) : Prop := ∀ b, G.R b ≤ G2.R b ∧ (G.O b ≠ .sh → G2.O b = G.O b ∧ G2.R b = G.R b)

theorem FN.conv {P : Program} {f : FuncId} {args : List AV} {s : Store} {Q Q' : List AV → Store → Prop} (h : FN P f args s Q)
    (k : ∀ rs s', Q rs s' → ∀ G w v, GoodW G w → StoreR G w s' → ResR G w rs v → ∃ rs2 s2 G2, Q' rs2 s2 ∧ GhStep G G2 ∧ GoodW G2 w ∧ StoreR G2 w s2 ∧ ResR G2 w rs2 v) : FN P f args s Q' := by
  intro G w vs h1 h2 h3 h4
  refine (h G w vs h1 h2 h3 h4).mono fun e w' ⟨v, rs, s', G', a, hq, hg, hs, hr, hp⟩ => ?_
  obtain ⟨rs2, s2, G2, k1, k2, k3, k4, k5⟩ := k rs s' hq G' w' v hg hs hr
  refine ⟨v, rs2, s2, G2, a, k1, k3, k4, k5, hp.os, hp.tape, hp.output, hp.size, fun b hb => Nat.le_trans (hp.mono b hb) (k2 b).1, hp.stable, hp.frame, fun b hb ho => ?_, fun b hb ho => ?_⟩
  · obtain ⟨q1, q2⟩ := hp.frameO b hb ho
    obtain ⟨q3, q4⟩ := (k2 b).2 (by rw [q1]; simp)
    exact ⟨q3.trans q1, q4.trans q2⟩
  · obtain ⟨q1, q2⟩ := hp.noneO b hb ho
    obtain ⟨q3, q4⟩ := (k2 b).2 (by rw [q1]; simp)
    exact ⟨q3.trans q1, q4.trans q2⟩

section
variable {G : Gh} {w : World} {s : Store} {b : Nat}

theorem step_at (h : StoreR G w s) (hg : GoodW G w) {cs : List AV} (hs : s b = some (.cells cs)) (r : Nat) :
    GhStep G (G.upd b (.res 0) r) ∧ GoodW (G.upd b (.res 0) r) w ∧ StoreR (G.upd b (.res 0) r) w (s.del b) ∧ (∀ a v, VR w G.R a v → VR w (G.upd b (.res 0) r).R a v) := by
  obtain ⟨q2, q3, c, t, q4, q5, q6⟩ := h b _ hs
  have hR : ∀ b', G.R b' ≤ (G.upd b (.res 0) r).R b' := fun b' => by
    by_cases hb : b' = b
    · subst hb; rw [q3]; exact Nat.zero_le _
    · simp [hb]
  have hv : ∀ a v, VR w G.R a v → VR w (G.upd b (.res 0) r).R a v := fun a v h => h.mono hR fun _ _ _ => rfl
  have same : ∀ b', b' ≠ b → (G.upd b (.res 0) r).O b' = G.O b' ∧ (G.upd b (.res 0) r).R b' = G.R b' := fun b' hb' => ⟨by simp [hb'], by simp [hb']⟩
  have hlt : b < w.heap.size := hg.lt (by rw [q2]; simp)
  refine ⟨fun b' => ⟨hR b', fun hb' => same b' fun e => by subst e; exact hb' q2⟩, ⟨fun b' hb' => ?_, fun b' hb' => ?_⟩, ?_, hv⟩
  · have : b' ≠ b := by omega
    rw [(same b' this).1, hg.newO b' hb']
  · have : b' ≠ b := by omega
    rw [(same b' this).2, hg.newR b' hb']
  · intro b' o hb'
    unfold Store.del at hb'
    split at hb'
    · cases hb'
    · rename_i hne
      obtain ⟨r1, r2, r3⟩ := h b' o hb'
      refine ⟨(same b' hne).1.trans r1, (same b' hne).2.trans r2, ?_⟩
      cases o with
      | cells cs' =>
        obtain ⟨c', t', r4, r5, r6⟩ := r3
        exact ⟨c', t', r4, r5.mono hv (fun b'' j hb'' => by
          have : b'' ≠ b := fun e => by subst e; rw [q2] at hb''; cases hb''
          exact ⟨(same b'' this).1.trans hb'', (same b'' this).2, rfl⟩), r6⟩
      | map es =>
        obtain ⟨ents, clock, r4, r5, r6⟩ := r3
        exact ⟨ents, clock, r4, r5, fun j x y hx hy => ⟨hv _ _ (r6 j x y hx hy).1, hv _ _ (r6 j x y hx hy).2⟩⟩

/-- A row of the store becomes one that nobody else knows. -/
theorem pack_us (h : StoreR G w s) (hg : GoodW G w) {n cap sz : Nat} {cs sp : List AV} {v : Value} (hs : s b = some (.cells (cs ++ sp))) (hc : 0 < cap) (hn : n ≤ cap) (hl : (cs ++ sp).length = cap * sz) (hl2 : cs.length = n * sz) (hvw : views (cs ++ sp) = cs ++ sp)
    (hr : ResR G w [.arr b 0 n cap] v) : ∃ G2, GhStep G G2 ∧ GoodW G2 w ∧ StoreR G2 w (s.del b) ∧ ResR G2 w [.us sz n cs] v := by
  obtain ⟨k1, k2, k3, k4⟩ := step_at h hg hs 0
  obtain ⟨q2, q3, c, t, q4, q5, q6⟩ := h b _ hs
  refine ⟨_, k1, k2, k3, .inr ⟨b, cap, c, t, sp, hc, hn, VR.inv_arr hr.1 hc, by simp, by simp, q4, by rw [q5.1, hl], hl2, hl, fun j x u hx hu => k4 _ _ (q5.2 j x u hx hu).1, q6, hvw⟩⟩
theorem pack_us0 {sz : Nat} {v : Value} (hr : ResR G w [.arr b 0 0 0] v) : ResR G w [.us sz 0 []] v := by
  rcases VR.inv_arr' hr.1 with e | ⟨_, _, e⟩
  · exact .inl ⟨rfl, rfl, .inr ⟨b, 0, e⟩⟩
  · exact .inl ⟨rfl, rfl, .inl e⟩

/-- A row of the store becomes a value that can be appended to. -/
theorem pack_sl (h : StoreR G w s) (hg : GoodW G w) {n cap sz : Nat} {cs sp : List AV} {v : Value} (hs : s b = some (.cells (cs ++ sp))) (hc : 0 < cap) (hn : n ≤ cap) (hl : (cs ++ sp).length = cap * sz) (hl2 : cs.length = n * sz) (hvw : views cs = cs)
    (hr : ResR G w [.arr b 0 n cap] v) : ∃ G2, GhStep G G2 ∧ GoodW G2 w ∧ StoreR G2 w (s.del b) ∧ ResR G2 w [.sl true sz n cs] v := by
  obtain ⟨k1, k2, k3, k4⟩ := step_at h hg hs (n * sz)
  obtain ⟨q2, q3, c, t, q4, q5, q6⟩ := h b _ hs
  have e := VR.inv_arr hr.1 hc
  refine ⟨_, k1, k2, k3, ?_, ?_⟩
  · rw [e]
    refine .sl true sz n cs b 0 cap (fun j => c.getD j undef) (fun x hx => q6 x (List.mem_append_left _ hx)) hl2 (by simp [hl2]) hn (fun j x hj => ?_) (fun j x hj => ?_)
    all_goals
      have hj' : (cs ++ sp)[j]? = some x := by rw [List.getElem?_append_left (List.getElem?_eq_some_iff.1 hj).1]; exact hj
      have hlt : j < c.size := by rw [q5.1]; exact (List.getElem?_eq_some_iff.1 hj').1
      have hget : c[j]? = some (c.getD j undef) := by simp [Array.getD_eq_getD_getElem?, hlt]
    · rw [Nat.zero_add, cell_of_row w q4, hget]
    · exact k4 _ _ (q5.2 j x _ hj' hget).1
  · intro base m' cap' hv _
    rw [e] at hv
    injection hv with e1 e2 e3
    subst e3
    exact ⟨b, 0, c, t, (0, 0), e1.symm, by simp, by simp, q4, by rw [q5.1, hl, Nat.zero_add], fun j _ hj => by simp at hj, Nat.le_refl _, rfl, .inl rfl, fun j y _ hy => by
      have hlt : j < (cs ++ sp).length := by rw [← q5.1]; exact (Array.getElem?_eq_some_iff.1 hy).1
      exact oneCell_of_flat (q6 _ (List.getElem_mem hlt)) (q5.2 j _ y (List.getElem?_eq_getElem hlt) hy).1⟩
theorem pack_sl0 {sz : Nat} {v : Value} (hr : ResR G w [.arr b 0 0 0] v) : ResR G w [.sl true sz 0 []] v := by
  rcases VR.inv_arr' hr.1 with e | ⟨_, _, e⟩
  · refine ⟨?_, ?_⟩
    · rw [e]; exact .sl true sz 0 [] b 0 0 (fun _ => undef) Fl.nil (by simp) (by simp) (Nat.le_refl _) (fun j c hj => by simp at hj) (fun j c hj => by simp at hj)
    · intro base m' cap' hv hc; rw [e] at hv; injection hv with _ e2 e3; omega
  · refine ⟨by rw [e]; exact .slnil _ _, ?_⟩
    intro base m' cap' hv hc; rw [e] at hv; injection hv with _ e2 e3; omega
end

theorem del_set {s : Store} {b : Nat} {o : SO} (h : s b = none) : (s.set b o).del b = s := by
  funext i
  unfold Store.set Store.del
  by_cases e : i = b
  · subst e; simp [h]
  · simp [e]
@[go_sem] theorem set_at {s : Store} {b : Nat} {o : SO} : (s.set b o) b = some o := by unfold Store.set; simp

/-- What one store says, the other says too. -/
def Sub (s2 s : Store) : Prop := ∀ b o, s2 b = some o → s b = some o
theorem Sub.refl (s : Store) : Sub s s := fun _ _ h => h
theorem Sub.set {s s2 : Store} (h : Sub s2 s) {b : Nat} {o : SO} (hb : s b = none) : Sub s2 (s.set b o) := fun b' o' h' => by
  have := h b' o' h'
  unfold Store.set
  split
  · rename_i e; subst e; rw [hb] at this; cases this
  · exact this
theorem Sub.set2 {s s2 : Store} (h : Sub s2 s) {b : Nat} {o : SO} : Sub (s2.set b o) (s.set b o) := fun b' o' h' => by
  unfold Store.set at h' ⊢
  split
  · rename_i e; rw [if_pos e] at h'; exact h'
  · rename_i e; rw [if_neg e] at h'; exact h b' o' h'
theorem Sub.del {s s2 : Store} (h : Sub s2 s) {b : Nat} (hb : s2 b = none) : Sub s2 (s.del b) := fun b' o' h' => by
  unfold Store.del
  split
  · rename_i e; subst e; rw [hb] at h'; cases h'
  · exact h b' o' h'
theorem Sub.none {s s2 : Store} (h : Sub s2 s) {b : Nat} (hb : s b = none) : s2 b = none := by
  cases h2 : s2 b with
  | none => rfl
  | some o => have := h b o h2; rw [hb] at this; cases this
theorem StoreR.sub {G : Gh} {w : World} {s s2 : Store} (h : StoreR G w s) (hs : Sub s2 s) : StoreR G w s2 := fun b o hb => h b o (hs b o hb)
theorem GhStep.refl (G : Gh) : GhStep G G := fun _ => ⟨Nat.le_refl _, fun _ => ⟨rfl, rfl⟩⟩

/-- Blocks of the store may be forgotten. -/
theorem FN.weak {P : Program} {f : FuncId} {args : List AV} {s : Store} {Q : List AV → Store → Prop} (h : FN P f args s fun rs s' => ∃ s2, Sub s2 s' ∧ Q rs s2) : FN P f args s Q :=
  h.conv fun rs _ ⟨s2, h1, h2⟩ G _ _ hg hs hr => ⟨rs, s2, G, h2, GhStep.refl G, hg, hs.sub h1, hr⟩

/-- A row result, as a slice. -/
theorem FN.row_sl {P : Program} {f : FuncId} {args : List AV} {s s2 : Store} {Q : List AV → Store → Prop} {sz : Nat} {cs : List AV} {n : Nat} (hl2 : cs.length = n * sz) (hvw : views cs = cs) (hq : Q [.sl true sz n cs] s2)
    (h : FN P f args s fun rs s' => (∃ b cap sp, rs = [.arr b 0 n cap] ∧ s' b = some (.cells (cs ++ sp)) ∧ 0 < cap ∧ n ≤ cap ∧ (cs ++ sp).length = cap * sz ∧ Sub s2 (s'.del b)) ∨ (n = 0 ∧ cs = [] ∧ Sub s2 s' ∧ ∃ b, rs = [.arr b 0 0 0])) : FN P f args s Q := by
  refine h.conv fun rs s' hq' G w v hg hs hr => ?_
  rcases hq' with ⟨b, cap, sp, rfl, hb, hc, hn, hl, hsub⟩ | ⟨rfl, rfl, hsub, b, rfl⟩
  · obtain ⟨G2, k1, k2, k3, k4⟩ := pack_sl hs hg hb hc hn hl hl2 hvw hr
    exact ⟨_, _, G2, hq, k1, k2, k3.sub hsub, k4⟩
  · exact ⟨_, _, G, hq, GhStep.refl G, hg, hs.sub hsub, pack_sl0 hr⟩
/-- A row result, as one that nobody else knows. -/
theorem FN.row_us {P : Program} {f : FuncId} {args : List AV} {s s2 : Store} {Q : List AV → Store → Prop} {sz : Nat} {cs : List AV} {n : Nat} (hl2 : cs.length = n * sz) (hq : Q [.us sz n cs] s2)
    (h : FN P f args s fun rs s' => (∃ b cap sp, rs = [.arr b 0 n cap] ∧ s' b = some (.cells (cs ++ sp)) ∧ 0 < cap ∧ n ≤ cap ∧ (cs ++ sp).length = cap * sz ∧ views (cs ++ sp) = cs ++ sp ∧ Sub s2 (s'.del b)) ∨ (n = 0 ∧ cs = [] ∧ Sub s2 s' ∧ ∃ b, rs = [.arr b 0 0 0])) : FN P f args s Q := by
  refine h.conv fun rs s' hq' G w v hg hs hr => ?_
  rcases hq' with ⟨b, cap, sp, rfl, hb, hc, hn, hl, hvw, hsub⟩ | ⟨rfl, rfl, hsub, b, rfl⟩
  · obtain ⟨G2, k1, k2, k3, k4⟩ := pack_us hs hg hb hc hn hl hl2 hvw hr
    exact ⟨_, _, G2, hq, k1, k2, k3.sub hsub, k4⟩
  · exact ⟨_, _, G, hq, GhStep.refl G, hg, hs.sub hsub, pack_us0 hr⟩

/-- Results that lead nowhere. -/
def plainR : AV → Bool
  | .int _ _ => true
  | .bool _ => true
  | .str _ => true
  | _ => false
theorem plainR_vr {w w' : World} {R R' : Nat → Nat} {a : AV} {v : Value} (h : plainR a = true) (hv : VR w R a v) : VR w' R' a v := by
  cases a <;> first | (cases h; done) | skip
  · rw [VR.inv_bool hv]; exact .bool _
  · rw [VR.inv_int hv]; exact .int _ _
  · rw [VR.inv_str hv]; exact .str _
/-- A function that is handed a row of the store as a value, for the time of its call, and hands back what leads nowhere. -/
theorem FN.borrow {P : Program} {f : FuncId} {args args' : List AV} {s : Store} {Q : List AV → Store → Prop} (b k : Nat)
    (h : FN P f args' noStore fun rs _ => rs.all plainR = true ∧ Q rs s)
    (ha : ∀ (G : Gh) (w : World) (vs : Array Value), StoreR G w s → ArgsR w G.R args vs → ArgsR w (fun i => if i = b ∧ b < w.heap.size then k else G.R i) args' vs) : FN P f args s Q := by
  intro G w vs h1 h2 h3 h4
  let G1 : Gh := ⟨fun i => if i = b ∧ b < w.heap.size then k else G.R i, fun i => if G.O i = .none then .none else .frame⟩
  have hO1 : ∀ i, G1.O i = .frame ∨ G1.O i = .none := fun i => by
    show (if G.O i = .none then Owner.none else Owner.frame) = _ ∨ _
    by_cases e : G.O i = .none <;> simp [e, G1]
  have hg1 : GoodW G1 w := ⟨fun i hi => by simp [G1, h1.newO i hi], fun i hi => by
    have : ¬ (i = b ∧ b < w.heap.size) := by omega
    show (if i = b ∧ b < w.heap.size then k else G.R i) = 0
    rw [if_neg this, h1.newR i hi]⟩
  refine (h G1 w vs hg1 (fun i => (hO1 i).elim (fun e => .inr (.inl e)) .inl) (fun i o hi => by cases hi) (ha G w vs h3 h4)).mono fun e w' ⟨v, rs, s', G', he, ⟨hpl, hq⟩, _, _, hr, hp⟩ => ?_
  have same : ∀ i, i < w.heap.size → w'.heap[i]? = w.heap[i]? := fun i hi => hp.frame i hi (hO1 i)
  have hcell : ∀ i j, i < w.heap.size → w'.cell? ⟨i, j, none⟩ = w.cell? ⟨i, j, none⟩ := fun i j hi => World.cell?_of_block (same i hi)
  have hlt : ∀ i, G.O i ≠ .none → i < w.heap.size := fun i hi => h1.lt hi
  have hR0 : ∀ i j, j < G.R i → i < w.heap.size := fun i j hj => by
    rcases Nat.lt_or_ge i w.heap.size with h | h
    · exact h
    · rw [h1.newR i h] at hj; omega
  have hpres : Pres G w G w' := ⟨hp.os, hp.tape, hp.output, hp.size, fun _ _ => Nat.le_refl _, fun i j hi _ => hcell i j hi, fun i hi _ => same i hi, fun i _ ho => ⟨ho, rfl⟩, fun i _ ho => ⟨ho, rfl⟩⟩
  have hg' : GoodW G w' := ⟨fun i hi => h1.newO i (Nat.le_trans hp.size hi), fun i hi => h1.newR i (Nat.le_trans hp.size hi)⟩
  refine ⟨v, rs, s, G, he, hq, hg', h3.mono h1 hpres (fun i hi => ⟨hi, rfl, same i (hlt i (by rw [hi]; simp))⟩) (fun i c j _ hc => ⟨hc, rfl, same c (hlt c (by rw [hc]; simp))⟩), ?_, hpres⟩
  match rs, hpl, hr with
  | [], _, hr =>
    obtain ⟨ys, q1, q2, q3⟩ := hr
    exact ⟨ys, q1, q2, fun j x y hx hy => by simp at hx⟩
  | [a], hpl, hr =>
    have hpa : plainR a = true := by simpa using hpl
    have hr' : VR w' G'.R a v ∧ OwnR G' w' (.res 0) a v := by
      cases a <;> first | exact hr | (cases hpa; done)
    show res1R G w' a v
    have hv := plainR_vr (w' := w') (R' := G.R) hpa hr'.1
    cases a <;> first | exact ⟨hv, trivial⟩ | (cases hpa; done)
  | a1 :: a2 :: rr, hpl, hr =>
    obtain ⟨ys, q1, q2, q3⟩ := hr
    refine ⟨ys, q1, q2, fun j x y hx hy => ?_⟩
    have hpa : plainR x = true := List.all_eq_true.1 hpl x (List.mem_of_getElem? hx)
    refine ⟨plainR_vr hpa (q3 j x y hx hy).1, ?_⟩
    cases x <;> first | trivial | (cases hpa; done)

/-- A row of the store, seen as a value. -/
theorem arr_view {G : Gh} {w : World} {s : Store} {b n cap sz : Nat} {cs : List AV} {v : Value} (h : StoreR G w s) (hlen : cs.length = n * sz) (hn : n ≤ cap) (hvw : views cs = cs) (hs : cs ≠ [] → ∃ sp, s b = some (.cells (cs ++ sp))) (hv : VR w G.R (.arr b 0 n cap) v) (hsz : 0 < sz) :
    VR w (fun i => if i = b ∧ b < w.heap.size then n * sz else G.R i) (.sl false sz n cs) v := by
  by_cases hcs : cs = []
  · subst hcs
    have hn0 : n = 0 := by
      rcases Nat.mul_eq_zero.1 hlen.symm with h | h
      · exact h
      · omega
    subst hn0
    rcases VR.inv_arr' hv with e | ⟨_, _, e⟩
    · rw [e]; exact .sl false sz 0 [] b 0 cap (fun _ => undef) Fl.nil (by simp) (Nat.zero_le _) (Nat.zero_le _) (fun j c hj => by simp at hj) (fun j c hj => by simp at hj)
    · rw [e]; exact .slnil _ _
  · obtain ⟨sp, hs⟩ := hs hcs
    obtain ⟨q2, q3, c, t, q4, q5, q6⟩ := h b _ hs
    have hb : b < w.heap.size := by
      rcases Nat.lt_or_ge b w.heap.size with h | h
      · exact h
      · rw [Array.getElem?_eq_none h] at q4; cases q4
    have hn0 : 0 < n := by
      rcases Nat.eq_zero_or_pos n with h | h
      · subst h; rw [Nat.zero_mul] at hlen; exact absurd (List.eq_nil_of_length_eq_zero hlen) hcs
      · exact h
    have e := VR.inv_arr hv (by omega)
    rw [e]
    have hmono : ∀ a u, VR w G.R a u → VR w (fun i => if i = b ∧ b < w.heap.size then n * sz else G.R i) a u := fun a u h => h.mono (fun i => by
      show G.R i ≤ if i = b ∧ b < w.heap.size then n * sz else G.R i
      split
      · rename_i e; rw [e.1, q3]; exact Nat.zero_le _
      · exact Nat.le_refl _) fun _ _ _ => rfl
    refine .sl false sz n cs b 0 cap (fun j => c.getD j undef) (fun x hx => q6 x (List.mem_append_left _ hx)) hlen (by simp [hb, hlen]) hn (fun j x hj => ?_) (fun j x hj => ?_)
    all_goals
      have hj' : (cs ++ sp)[j]? = some x := by rw [List.getElem?_append_left (List.getElem?_eq_some_iff.1 hj).1]; exact hj
      have hlt : j < c.size := by rw [q5.1]; exact (List.getElem?_eq_some_iff.1 hj').1
      have hget : c[j]? = some (c.getD j undef) := by simp [Array.getD_eq_getD_getElem?, hlt]
    · rw [Nat.zero_add, cell_of_row w q4, hget]
    · exact hmono _ _ (q5.2 j x _ hj' hget).1
end Go.AB
end

section
namespace Go.AB
open Go

/-- Deeper than any call goes. -/
def bigN : Nat := 18446744073709551616

@[go_sem] theorem nbeq_eq (a b : Nat) : Nat.beq a b = (a == b) := Bool.eq_iff_iff.2 (by rw [Nat.beq_eq]; simp)

theorem b_to {A C : Prop} {b : Bool} (h : b = true) (k : A → C) : A → b = true ∧ C := fun x => ⟨h, k x⟩
theorem n_to {A C : Prop} {a b : Nat} (h : a = b) (k : A → C) : A → a = b ∧ C := fun x => ⟨h, k x⟩
/-- Under a guard in a guard. -/
theorem sp_to {A P Q R : Prop} {b : Bool} {c1 c2 : Prop} (p : b = true → c1 → A → P) (q : b = true → c2 → A → Q) (r : b = false → A → R) : A → (b = true → c1 → P) ∧ (b = true → c2 → Q) ∧ (b = false → R) := fun a => ⟨fun h k => p h k a, fun h k => q h k a, fun h => r h a⟩
@[go_sem] theorem pad_int0 (l : List Int) : pad [.int .i64 0] (views (AB.sub (flat l) 0 1)) = [.int .i64 (ix l 0)] := pad_int l 0
theorem FE_cast {P : Program} {f : FuncId} {as1 as2 rs : List AV} {s s' : Store} (e : as1 = as2) (h : FE P f as1 s rs s') : FE P f as2 s rs s' := e ▸ h

/-! Taking an owned slice out of a heap object's cell. -/
def loadDR (σ : St) (d : Option Nat) (K : St → Prop) (b off : Nat) : Option SO → Prop
  | some (.cells cs) => takeC off cs fun cs' a => K ({ σ with s := σ.s.set b (.cells cs') }.put d a)
  | _ => False
@[go_sem] theorem loadDW_ref (σ : St) (d : Option Nat) (K : St → Prop) (b off : Nat) : loadDW σ d K (.ref b off) = loadDR σ d K b off (σ.s b) := by
  show (match σ.s b with | some (.cells cs) => takeC off cs fun cs' a => K ({ σ with s := σ.s.set b (.cells cs') }.put d a) | _ => False) = _
  unfold loadDR
  rcases σ.s b with _ | ⟨_ | _⟩ <;> rfl
@[go_sem] theorem loadDR_cells (σ : St) (d : Option Nat) (K : St → Prop) (b off : Nat) (cs : List AV) : loadDR σ d K b off (some (.cells cs)) = takeC off cs fun cs' a => K ({ σ with s := σ.s.set b (.cells cs') }.put d a) := rfl
/-! Taking an owned slice out of a local's cell. -/
def loadDL (σ : St) (d : Option Nat) (K : St → Prop) (i off : Nat) : AV → Prop
  | .loc cs => d ≠ some i ∧ takeC off cs fun cs' a => K ((σ.put (some i) (.loc cs')).put d a)
  | _ => False
@[go_sem] theorem loadDW_lp (σ : St) (d : Option Nat) (K : St → Prop) (i off : Nat) : loadDW σ d K (.lp i off) = loadDL σ d K i off (look σ.e i) := by
  show (match look σ.e i with | .loc cs => d ≠ some i ∧ takeC off cs fun cs' a => K ((σ.put (some i) (.loc cs')).put d a) | _ => False) = _
  cases look σ.e i <;> rfl
@[go_sem] theorem loadDL_loc (σ : St) (d : Nat) (K : St → Prop) (i off : Nat) (cs : List AV) : loadDL σ (some d) K i off (.loc cs) = (Nat.beq d i = false ∧ takeC off cs fun cs' a => K ((σ.put (some i) (.loc cs')).put (some d) a)) := by
  show (some d ≠ some i ∧ _) = _
  have e : (some d ≠ some i) = (Nat.beq d i = false) := propext ⟨fun h => by
    cases hb : Nat.beq d i with
    | false => rfl
    | true => exact (h (by rw [Nat.eq_of_beq_eq_true hb])).elim, fun h e => by
    injection e with e
    subst e
    rw [Nat.beq_refl] at h
    cases h⟩
  rw [e]
@[go_sem] theorem takeC_zero (o : Bool) (sz n : Nat) (ds cs : List AV) (k : List AV → AV → Prop) : takeC 0 (.sl o sz n ds :: cs) k = k (.sl false sz n ds :: cs) (.sl o sz n ds) := rfl
@[go_sem] theorem takeC_succ (a : AV) (n : Nat) (cs : List AV) (k : List AV → AV → Prop) : takeC (n + 1) (a :: cs) k = takeC n cs fun cs' x => k (a :: cs') x := by
  have e : ∀ x, setAt (a :: cs) (n + 1) [x] = a :: setAt cs n [x] := fun x => by
    unfold setAt
    rw [List.take_succ_cons, show n + 1 + [x].length = (n + [x].length) + 1 by simp [Nat.add_right_comm], List.drop_succ_cons]
    rfl
  unfold takeC
  rw [List.getElem?_cons_succ]
  cases h : cs[n]? with
  | none => rfl
  | some b => cases b <;> first | rfl | (simp only [e])

def ixI : AV → Option Int
  | .int _ n => some n
  | _ => none
@[go_sem] theorem ixV_none (f : IX → AV) (d : Int) : ixV f none d = some d := rfl
@[go_sem] theorem ixV_some (f : IX → AV) (x : IX) (d : Int) : ixV f (some x) d = ixI (f x) := rfl
@[go_sem] theorem ixI_int (k : IntKind) (n : Int) : ixI (.int k n) = some n := rfl
attribute [go_sem] Option.isSome_some Bool.cond_true
@[go_sem] theorem arrOff_zero (off cap sz : Nat) : arrOff off cap 0 sz = off := by
  unfold arrOff
  cases (cap == 0) <;> simp
@[go_sem] theorem toNat_zero : (0 : Int).toNat = 0 := rfl
attribute [go_sem] Int.toNat_natCast Int.sub_zero Nat.sub_zero
@[go_sem] theorem toNat_sub' (a b : Nat) : ((a : Int) - (b : Int)).toNat = a - b := by omega

section
variable {σ : St} {d : Option Nat} {K : St → Prop} {sz by' : Nat} {zero : List AV} {b off n cap m : Nat} {cs ds : List AV}
theorem srcV_arr {s : Store} (hs : s b = some (.cells cs)) (hf : off + m * sz ≤ cs.length) : srcV s sz (.arr b off m cap) = some (m, views (AB.sub cs off (m * sz))) := by
  show (bif m == 0 then some (0, []) else cellsAt m sz off (s b)) = _
  by_cases hm : m = 0
  · subst hm; simp [AB.sub, views]
  · rw [show (m == 0) = false by simpa using hm, hs]
    show (bif decide (off + m * sz ≤ cs.length) then some (m, views (AB.sub cs off (m * sz))) else none) = _
    rw [decide_eq_true hf]; rfl
theorem srcV_sl (s : Store) (ow : Bool) : srcV s sz (.sl ow sz m ds) = some (m, views ds) := by unfold srcV; simp
theorem srcV_none (s : Store) : srcV s sz (.arr b off 0 cap) = some (0, []) := rfl
theorem oldsV_arr {s : Store} (hs : s b = some (.cells cs)) (hf : off + n * sz ≤ cs.length) : oldsV s sz b off n = some (views (AB.sub cs off (n * sz))) := by
  unfold oldsV
  by_cases hm : n = 0
  · subst hm; simp [AB.sub, views]
  · rw [show (n == 0) = false by simpa using hm, hs]
    show ((bif decide (off + n * sz ≤ cs.length) then some (n, views (AB.sub cs off (n * sz))) else none) : Option (Nat × List AV)).map Prod.snd = _
    rw [decide_eq_true hf]; rfl
theorem appendAW_in (hz : zero.length = sz) (hs : σ.s b = some (.cells cs)) (hf : off + cap * sz ≤ cs.length) (hm : n + m ≤ cap)
    (hk : K ({ σ with s := σ.s.set b (.cells (setAt cs (off + n * sz) ds)) }.put d (.arr b off (n + m) cap))) : appendAW sz by' zero σ d K (.arr b off n cap) (some (m, ds)) := by
  have hn : off + n * sz ≤ cs.length := Nat.le_trans (Nat.add_le_add_left (Nat.mul_le_mul_right _ (by omega)) _) hf
  show appA sz by' zero σ d K b off n cap m ds (oldsV σ.s sz b off n)
  rw [oldsV_arr hs hn]
  refine ⟨hz, fun _ => .inr ⟨by rw [hs]; exact hf, ?_⟩, fun h => by omega⟩
  rw [hs]; exact hk
theorem appendAW_new (hz : zero.length = sz) {olds : List AV} (ho : oldsV σ.s sz b off n = some olds) (hm : cap < n + m) (hr : (n + m) * by' ≤ room)
    (hk : ∀ b' cap', σ.s b' = none → n + m ≤ cap' → K ({ σ with s := σ.s.set b' (.cells (olds ++ ds ++ (List.replicate (cap' - (n + m)) zero).flatten)) }.put d (.arr b' 0 (n + m) cap'))) : appendAW sz by' zero σ d K (.arr b off n cap) (some (m, ds)) := by
  show appA sz by' zero σ d K b off n cap m ds (oldsV σ.s sz b off n)
  rw [ho]
  exact ⟨hz, fun h => by omega, fun _ => ⟨hr, hk⟩⟩
theorem appendAW_zero (hz : zero.length = sz) {olds : List AV} (ho : oldsV σ.s sz b off n = some olds) (hm : n ≤ cap) (hk : K (σ.put d (.arr b off n cap))) : appendAW sz by' zero σ d K (.arr b off n cap) (some (0, ds)) := by
  show appA sz by' zero σ d K b off n cap 0 ds (oldsV σ.s sz b off n)
  rw [ho]
  exact ⟨hz, fun _ => .inl ⟨rfl, hk⟩, fun h => by omega⟩
theorem copyAW_in (hs : σ.s b = some (.cells cs)) (hf : off + n * sz ≤ cs.length)
    (hk : K ({ σ with s := σ.s.set b (.cells (setAt cs off (ds.take (min m n * sz)))) }.put d (.int .i64 (min m n : Nat)))) : copyAW sz σ d K (.arr b off n cap) (some (m, ds)) := by
  refine .inr ⟨by rw [hs]; exact hf, ?_⟩
  rw [hs]; exact hk
theorem copyAW_zero (h0 : min m n = 0) (hk : K (σ.put d (.int .i64 0))) : copyAW sz σ d K (.arr b off n cap) (some (m, ds)) := .inl ⟨h0, hk⟩
theorem clearAW_in (hz : views zero = zero) (hs : σ.s b = some (.cells cs)) (hf : off + n * zero.length ≤ cs.length)
    (hk : K ({ σ with s := σ.s.set b (.cells (setAt cs off (List.replicate n zero).flatten)) }.put d (.tup []))) : clearAW zero σ d K (.arr b off n cap) := by
  refine .inr ⟨by rw [hs]; exact hf, hz, ?_⟩
  rw [hs]; exact hk
theorem clearAW_zero (h0 : n = 0) (hk : K (σ.put d (.tup []))) : clearAW zero σ d K (.arr b off n cap) := .inl ⟨h0, hk⟩
theorem appendZW_new (hz : zero.length = sz) (hv : views zero = zero) {olds : List AV} (ho : oldsV σ.s sz b off n = some olds) (hm : cap < n + m) (hr : (n + m) * by' ≤ room)
    (hk : ∀ b' cap', σ.s b' = none → n + m ≤ cap' → K ({ σ with s := σ.s.set b' (.cells (olds ++ (List.replicate m zero).flatten ++ (List.replicate (cap' - (n + m)) zero).flatten)) }.put d (.arr b' 0 (n + m) cap'))) : appendZW sz by' zero σ d K (.arr b off n cap) (.int .i64 (m : Nat)) := by
  show 0 ≤ ((m : Nat) : Int) ∧ _
  refine ⟨Int.natCast_nonneg m, by simpa using hm, hv, ?_⟩
  rw [Int.toNat_natCast]
  show appA sz by' zero σ d K b off n cap m _ (oldsV σ.s sz b off n)
  rw [ho]
  exact ⟨hz, fun h => by omega, fun _ => ⟨hr, hk⟩⟩
theorem ovlW_in {P : Program} {f : FuncId} {ow : Bool} {b' off' n' cap' m : Nat} {cs : List AV} (h1 : OvlIs P f) (h2 : 0 < m) (h3 : cs ≠ []) (h4 : 0 < cap') {o : List AV} (h5 : σ.s b' = some (.cells o)) (h6 : o.length ≠ 0) (hk : K (σ.put d (.bool false))) : ovlW P f σ d K (.sl ow sz m cs) (.arr b' off' n' cap') := by
  cases m with
  | zero => omega
  | succ m => cases cs with
    | nil => exact absurd rfl h3
    | cons c cs => cases cap' with
      | zero => omega
      | succ cap' =>
        refine ⟨h1, ?_, hk⟩
        cases o with
        | nil => exact absurd rfl h6
        | cons _ _ => rw [h5]; exact trivial
theorem setAt2 (C X Y : List AV) (k k' : Nat) (h1 : k' = k + Y.length) (h2 : k' + X.length ≤ C.length) : setAt (setAt C k' X) k Y = C.take k ++ Y ++ X ++ C.drop (k' + X.length) := by
  unfold setAt
  have e1 : (C.take k' ++ X ++ C.drop (k' + X.length)).take k = C.take k := by
    rw [List.append_assoc, List.take_append_of_le_length (by simp; omega), List.take_take, Nat.min_eq_left (by omega)]
  have e2 : (C.take k' ++ X ++ C.drop (k' + X.length)).drop (k + Y.length) = X ++ C.drop (k' + X.length) := by
    rw [← h1, List.append_assoc, List.drop_append_of_le_length (by simp; omega), List.drop_of_length_le (by simp; omega), List.nil_append]
  rw [e1, e2]
  simp [List.append_assoc]
theorem arrOff_lt {off cap l sz : Nat} (h : l < cap) : arrOff off cap l sz = off + l * sz := by
  unfold arrOff; rw [show (cap == l) = false by simp; omega]; rfl
end

section
variable {α : Type} [Enc α]

theorem flat_take' (l : List α) (k : Nat) : flat (l.take k) = (flat l).take (k * Enc.w α) := (flat_take l k).symm
theorem flat_drop' (l : List α) (k : Nat) : flat (l.drop k) = (flat l).drop (k * Enc.w α) := (flat_drop l k).symm

theorem row_sub (l : List α) (sp : List AV) (n j m : Nat) (hn : n = Enc.w α) (h : j + m ≤ l.length) : AB.sub (flat l ++ sp) (j * n) (m * n) = flat ((l.drop j).take m) := by
  subst hn
  rw [← flat_sub l _ j m rfl]
  unfold AB.sub
  have h1 : j * Enc.w α ≤ (flat l).length := by rw [flat_len]; exact Nat.mul_le_mul_right _ (by omega)
  rw [List.drop_append_of_le_length h1, List.take_append_of_le_length]
  rw [List.length_drop, flat_len, ← Nat.sub_mul]
  exact Nat.mul_le_mul_right _ (by omega)

theorem row_set (l l' : List α) (sp : List AV) (n i : Nat) (hn : n = Enc.w α) (h : i + l'.length ≤ l.length) : setAt (flat l ++ sp) (i * n) (flat l') = flat (l.take i ++ l' ++ l.drop (i + l'.length)) ++ sp := by
  subst hn
  unfold setAt
  have e1 : i * Enc.w α + (flat l').length = (i + l'.length) * Enc.w α := by rw [flat_len, Nat.add_mul]
  have h1 : i * Enc.w α ≤ (flat l).length := by rw [flat_len]; exact Nat.mul_le_mul_right _ (by omega)
  have h2 : (i + l'.length) * Enc.w α ≤ (flat l).length := by rw [flat_len]; exact Nat.mul_le_mul_right _ h
  rw [e1, List.take_append_of_le_length h1, List.drop_append_of_le_length h2, flat_append, flat_append, flat_take', flat_drop']
  simp [List.append_assoc]

/-- Writing into the room behind a row. -/
theorem row_room (l l' : List α) (sp : List AV) (n : Nat) (hn : n = Enc.w α) (h : l'.length * n ≤ sp.length) : setAt (flat l ++ sp) (l.length * n) (flat l') = flat (l ++ l') ++ sp.drop (l'.length * n) := by
  subst hn
  unfold setAt
  have e0 : l.length * Enc.w α = (flat l).length := (flat_len l).symm
  have e1 : (flat l').length = l'.length * Enc.w α := flat_len l'
  rw [e0, List.take_left, List.drop_append, e1, flat_append]
  rw [List.drop_of_length_le (by omega)]
  simp

theorem flat_rep (z : α) (k : Nat) : flat (List.replicate k z) = (List.replicate k (Enc.cells z)).flatten := by
  unfold flat; rw [List.map_replicate]
end
end Go.AB
end

section
namespace Go.AB
open Go

theorem iterN_inv {S O : Type} {body : S → Option (S ⊕ O)} (I : S → Prop) (μ : S → Nat) (Post : O → Prop)
    (step : ∀ s, I s → ∃ x, body s = some x ∧ (match x with | .inl t => I t ∧ μ t < μ s | .inr o => Post o)) : ∀ (n : Nat) (s : S), I s → μ s < n → ∃ o, iterN body n s = some o ∧ Post o
  | 0, _, _, h => absurd h (Nat.not_lt_zero _)
  | n + 1, s, hi, hn => by
    obtain ⟨x, hx, h⟩ := step s hi
    cases x with
    | inl t =>
      obtain ⟨o, h1, h2⟩ := iterN_inv I μ Post step n t h.1 (by have := h.2; omega)
      exact ⟨o, by unfold iterN; rw [hx]; exact h1, h2⟩
    | inr o => exact ⟨o, by unfold iterN; rw [hx], h⟩

/-- A loop that goes on as long as it says. -/
theorem iter_inv {S O : Type} {body : S → Option (S ⊕ O)} {s0 : S} (I : S → Prop) (μ : S → Nat) (Post : O → Prop) (h0 : I s0) (hμ : μ s0 < 18446744073709551616)
    (step : ∀ s, I s → ∃ x, body s = some x ∧ (match x with | .inl t => I t ∧ μ t < μ s | .inr o => Post o)) : ∃ o, iter body s0 = some o ∧ Post o :=
  iterN_inv I μ Post step _ s0 h0 hμ

/-- The same where what comes of it is known. -/
theorem iter_eq {S O : Type} {body : S → Option (S ⊕ O)} {s0 : S} {o : O} (I : S → Prop) (μ : S → Nat) (h0 : I s0) (hμ : μ s0 < 18446744073709551616)
    (step : ∀ s, I s → (∃ t, body s = some (.inl t) ∧ I t ∧ μ t < μ s) ∨ body s = some (.inr o)) : iter body s0 = some o := by
  obtain ⟨p, h1, h2⟩ := iter_inv I μ (fun p => p = o) h0 hμ fun s hs => by
    rcases step s hs with ⟨t, h1, h2⟩ | h1
    · exact ⟨_, h1, h2⟩
    · exact ⟨_, h1, rfl⟩
  rw [h1, h2]

theorem w64_id {n : Int} (h1 : -9223372036854775808 ≤ n) (h2 : n ≤ 9223372036854775807) : w64 n = n := by
  unfold w64 IntKind.wrap
  have : (2 ^ IntKind.i64.bits : Int) = 18446744073709551616 := by decide
  have h3 : (2 ^ (IntKind.i64.bits - 1) : Int) = 9223372036854775808 := by decide
  rw [this, h3]
  simp only [IntKind.signed, Bool.true_and, decide_eq_true_eq]
  split <;> omega

@[simp] theorem bnd_some {α β : Type} (a : α) (f : α → Option β) : bnd (some a) f = f a := rfl
@[simp] theorem bnd_none {α β : Type} (f : α → Option β) : bnd none f = none := rfl
@[simp] theorem jn_some {α β : Type} (a : α) (f : α → Option β) : jn (some a) f = f a := rfl
@[simp] theorem jn_none {α β : Type} (f : α → Option β) : jn none f = none := rfl
@[simp] theorem bndS_l {X Y α : Type} (x : X) (F : X → Option α) (G : Y → Option α) : bndS (some (.inl x)) F G = F x := rfl
@[simp] theorem bndS_r {X Y α : Type} (y : Y) (F : X → Option α) (G : Y → Option α) : bndS (some (.inr y)) F G = G y := rfl
@[simp] theorem jnS_l {X Y α : Type} (x : X) (F : X → Option α) (G : Y → Option α) : jnS (some (.inl x)) F G = F x := rfl
@[simp] theorem jnS_r {X Y α : Type} (y : Y) (F : X → Option α) (G : Y → Option α) : jnS (some (.inr y)) F G = G y := rfl
@[simp] theorem jn_id {α : Type} (o : Option α) : jn o (fun a => some a) = o := by cases o <;> rfl
@[simp] theorem bnd_id {α : Type} (o : Option α) : bnd o (fun a => some a) = o := by cases o <;> rfl
theorem need_pos {α : Type} {c : Prop} [Decidable c] (h : c) (o : Option α) : need c o = o := if_pos h
@[simp] theorem need_true {α : Type} [Decidable True] (o : Option α) : need True o = o := if_pos trivial
@[simp] theorem whenB_t {α : Type} (z : α) (o : Option α) : whenB true z o = o := rfl
@[simp] theorem whenB_f {α : Type} (z : α) (o : Option α) : whenB false z o = some z := rfl
@[simp] theorem caseS_l' {A B C : Type} (f : A → C) (g : B → C) (a : A) : caseS f g (.inl a) = f a := rfl
@[simp] theorem caseS_r' {A B C : Type} (f : A → C) (g : B → C) (b : B) : caseS f g (.inr b) = g b := rfl
theorem ix_at {α : Type} [Enc α] {l : List α} {i : Int} (h : i.toNat < l.length) : ix l i = l[i.toNat] := by
  unfold ix; rw [List.getD_eq_getElem?_getD, List.getElem?_eq_getElem h]; rfl
theorem ix_nat {α : Type} [Enc α] {l : List α} {k : Nat} (h : k < l.length) : ix l (k : Int) = l[k] := by
  rw [ix_at (by simpa using h)]; simp
theorem ix_get {α : Type} [Enc α] {l : List α} {k : Nat} {a : α} (h : l[k]? = some a) : ix l (k : Int) = a := by
  unfold ix; rw [List.getD_eq_getElem?_getD]; simp [h]
end Go.AB
end

section
namespace Go.AB
open Go
theorem mix : Go.Proofs.Tryz.prog.follows .mixedOrders = true := by kernel_rfl
end Go.AB
end

section
namespace Go.AB
open Go

structure api_Value where
  Kind : Int
  N : Int
  S : Str
  L : (List api_Value)
mutual
def api_ValueC : api_Value → List AV
  | ⟨k, n, s, l⟩ => [.int .i64 k, .int .i64 n, .str s.b, .sl false 4 l.length (api_ValueL l)]
def api_ValueL : List api_Value → List AV
  | [] => []
  | v :: l => api_ValueC v ++ api_ValueL l
end
theorem api_ValueC_v (x : api_Value) : views (api_ValueC x) = api_ValueC x := by cases x; simp [api_ValueC, views, view]
theorem api_ValueC_l (x : api_Value) : (api_ValueC x).length = 4 := by cases x; simp [api_ValueC]
instance : Enc api_Value := ⟨4, api_ValueC, ⟨0, 0, ⟨[]⟩, []⟩, by decide, api_ValueC_l, api_ValueC_v⟩
theorem api_ValueL_flat : ∀ l : List api_Value, api_ValueL l = flat l
  | [] => by rw [api_ValueL]; rfl
  | v :: l => by rw [api_ValueL, api_ValueL_flat l]; rfl
@[go_sem] theorem cells_api_Value (x : api_Value) : Enc.cells x = [.int .i64 x.Kind, .int .i64 x.N, .str x.S.b, .sl false 4 x.L.length (flat x.L)] := by
  cases x
  show api_ValueC _ = _
  rw [api_ValueC, api_ValueL_flat]
@[go_sem] theorem w_api_Value : Enc.w api_Value = 4 := rfl
@[go_sem] theorem pad_api_Value (l : List api_Value) (i : Int) : pad [.int .i64 0, .int .i64 0, .str [], .sl false 4 0 []] (views (AB.sub (flat l) (i.toNat * 4) 4)) = [.int .i64 ((ix l i).Kind), .int .i64 ((ix l i).N), .str ((ix l i).S).b, .sl false 4 ((ix l i).L).length (flat ((ix l i).L))] := by
  rw [← cells_api_Value]; exact flat_pad _ 4 l i (by rw [cells_api_Value]; rfl) rfl
@[go_sem] theorem mk_api_Value (x : api_Value) : api_Value.mk x.Kind x.N x.S x.L = x := by cases x; rfl
/-- slices.Delete[[]catchword/api.Value,catchword/api.Value] -/
def ir_DeleteV : IC :=
 (.seq (.reg none [i1 6 (.mov false (.c (.arr 0 0 0 0)))] [0, 1, 2])
 (.seq (.reg none [mv 8 0,
 mv 9 1,
 mv 10 2,
 mv 11 0,
 i1 12 (.len 0 (.t 11)),
 i1 13 (.slice 4 (.t 8) (some (.t 9)) (some (.t 10)) (some (.t 12)))] [0, 1, 2])
 (.seq (.seq (.reg none [mv 14 1,
 mv 15 2,
 i1 16 (.bin .eql (.t 14) (.t 15))] [0, 1, 2, 16])
 (.cond (.t 16) (.seq (.reg none [mv 17 0,
 mv 6 17] [6])
 .ret)
 .skip))
 (.seq (.reg none [mv 18 0,
 i1 19 (.len 0 (.t 18)),
 mv 7 19] [0, 1, 2, 7])
 (.seq (.reg (some 6) [mv 20 0,
 mv 21 1,
 i1 22 (.slice 4 (.t 20) none (some (.t 21)) none),
 mv 23 0,
 mv 24 2,
 i1 25 (.slice 4 (.t 23) (some (.t 24)) none none),
 i1 26 (.appendA 4 56 [.int .i64 0, .int .i64 0, .str [], .sl false 4 0 []] (.t 22) (.t 25)),
 mv 0 26] [0, 7])
 (.seq (.reg none [mv 27 0,
 mv 28 0,
 i1 29 (.len 0 (.t 28)),
 mv 30 7,
 i1 31 (.slice 4 (.t 27) (some (.t 29)) (some (.t 30)) none),
 i0 (.clearA [.int .i64 0, .int .i64 0, .str [], .sl false 4 0 []] (.t 31))] [0])
 (.seq (.reg none [mv 32 0,
 mv 6 32] [6])
 .ret)))))))
def res_DeleteV : List IRes := [⟨6, true, none⟩]
theorem is_DeleteV : fnIs Go.Proofs.Tryz.prog 82 33 res_DeleteV ir_DeleteV = true := by kernel_rfl


/-- slices.Delete on a row of the store. -/
theorem deleteV_arr {b cap i j : Nat} {l : List api_Value} {sp : List AV} {s : Store} {Q : List AV → Store → Prop} (hs : s b = some (.cells (flat l ++ sp))) (hl : (flat l ++ sp).length = cap * 4) (hn : l.length ≤ cap) (hij : i < j) (hj : j ≤ l.length) (hbig : (l.length : Int) ≤ 9223372036854775807)
    (hq : Q [.arr b 0 (l.length - (j - i)) cap] (s.set b (.cells (flat (l.take i ++ l.drop j) ++ (flat (List.replicate (j - i) (⟨0, 0, ⟨[]⟩, []⟩ : api_Value)) ++ sp))))) :
    FN Go.Proofs.Tryz.prog 82 [.arr b 0 l.length cap, .int .i64 i, .int .i64 j] s Q := by
  refine FN.of (draw_ok mix) is_DeleteV rfl (Nat.le_of_ble_eq_true rfl) ?_
  rw [ir_DeleteV, res_DeleteV]
  simp -implicitDefEqProofs only [go_sem, start, startE, resVs, resV, resC, allV, retK, Nat.reduceBEq, Nat.reduceAdd, Nat.reduceMul, Nat.reduceLeDiff, Nat.reduceEqDiff, Nat.reduceBNe, Nat.ble_eq, UInt8.reduceToNat, hs]
  refine ⟨by omega, fun h => by have := eq_of_beq h; omega, fun _ => ⟨by omega, by omega, ?_⟩⟩
  have hsrc : srcV s 4 (.arr b (arrOff 0 cap j 4) (l.length - j) (cap - j)) = some (l.length - j, flat (l.drop j)) := by
    by_cases hjn : j = l.length
    · subst hjn
      rw [Nat.sub_self, srcV_none, List.drop_length]; rfl
    · rw [arrOff_lt (by omega), Nat.zero_add, srcV_arr hs (by rw [hl, ← Nat.add_mul]; exact Nat.mul_le_mul_right _ (by omega)), row_sub l sp 4 j _ rfl (by omega), flat_views, List.take_of_length_le (by simp)]
  rw [hsrc]
  refine appendAW_in rfl hs (by rw [hl]; omega) (by omega) ?_
  have hst := row_set l (l.drop j) sp 4 i rfl (by simp; omega)
  rw [Nat.zero_add, hst]
  generalize hl1 : l.take i ++ l.drop j ++ l.drop (i + (l.drop j).length) = l1
  have hlen1 : l1.length = l.length := by subst hl1; simp; omega
  have hz : (List.replicate (j - i) [.int .i64 0, .int .i64 0, .str [], .sl false 4 0 []]).flatten = flat (List.replicate (j - i) (⟨0, 0, ⟨[]⟩, []⟩ : api_Value)) := by
    rw [flat_rep]; rfl
  have hsp : (flat l1 ++ sp).length = cap * 4 := by
    rw [← hl, List.length_append, List.length_append, flat_len, flat_len, hlen1]
  have e1 : i + (l.length - j) < cap := by omega
  have hst2 := row_set l1 (List.replicate (j - i) (⟨0, 0, ⟨[]⟩, []⟩ : api_Value)) sp 4 (i + (l.length - j)) rfl (by simp; omega)
  have e2 : l1.take (i + (l.length - j)) = l.take i ++ l.drop j := by
    subst hl1
    rw [List.take_append_of_le_length (by simp; omega), List.take_of_length_le (by simp; omega)]
  have e3 : l1.drop (i + (l.length - j) + (List.replicate (j - i) (⟨0, 0, ⟨[]⟩, []⟩ : api_Value)).length) = [] := by
    rw [List.drop_eq_nil_iff]; simp; omega
  rw [e2, e3, List.append_nil] at hst2
  generalize hl2 : l.take i ++ l.drop j = l2 at hst2 hq
  simp -implicitDefEqProofs only [go_sem, start, startE, resVs, resV, resC, allV, retK, Nat.reduceBEq, Nat.reduceAdd, Nat.reduceMul, Nat.reduceLeDiff, Nat.reduceEqDiff, Nat.reduceBNe, Nat.ble_eq, UInt8.reduceToNat]
  refine ⟨by omega, ?_⟩
  rw [arrOff_lt e1]
  refine clearAW_in rfl set_at (by
    rw [hsp]
    show 0 + (i + (l.length - j)) * 4 + (l.length - (i + (l.length - j))) * 4 ≤ cap * 4
    omega) ?_
  rw [show l.length - (i + (l.length - j)) = j - i by omega, Nat.zero_add, hz, hst2]
  simp -implicitDefEqProofs only [go_sem, start, startE, resVs, resV, resC, allV, retK, Nat.reduceBEq, Nat.reduceAdd, Nat.reduceMul, Nat.reduceLeDiff, Nat.reduceEqDiff, Nat.reduceBNe, Nat.ble_eq, UInt8.reduceToNat]
  rw [show i + (l.length - j) = l.length - (j - i) by omega, List.append_assoc]
  exact hq

/-- slices.Clone[[]catchword/api.Value,catchword/api.Value] -/
def ir_CloneV : IC :=
 (.seq (.reg none [i1 2 (.mov false (.c (.arr 0 0 0 0)))] [0])
 (.seq (.seq (.reg none [mv 3 0,
 i1 4 (.eqN false (.t 3))] [0, 4])
 (.cond (.t 4) (.seq (.reg none [i1 2 (.mov false (.c (.arr 0 0 0 0)))] [2])
 .ret)
 .skip))
 (.seq (.reg none [i1 5 (.buildSlA 4 0 [] []),
 mv 6 0,
 i1 7 (.appendA 4 56 [.int .i64 0, .int .i64 0, .str [], .sl false 4 0 []] (.t 5) (.t 6)),
 mv 2 7] [2])
 .ret)))
def res_CloneV : List IRes := [⟨2, true, none⟩]
theorem is_CloneV : fnIs Go.Proofs.Tryz.prog 76 8 res_CloneV ir_CloneV = true := by kernel_rfl

def cloneVP (l : List api_Value) (s : Store) (rs : List AV) (s' : Store) : Prop := (∃ b cap sp, rs = [.arr b 0 l.length cap] ∧ s b = none ∧ 0 < cap ∧ l.length ≤ cap ∧ (flat l ++ sp).length = cap * 4 ∧ views (flat l ++ sp) = flat l ++ sp ∧ s' = s.set b (.cells (flat l ++ sp))) ∨ (l = [] ∧ s' = s ∧ ∃ b, rs = [.arr b 0 0 0])
theorem cloneV_arr {o : Bool} {l : List api_Value} {s : Store} (hr : l.length * 56 ≤ room) : FN Go.Proofs.Tryz.prog 76 [.sl o 4 l.length (flat l)] s (cloneVP l s) := by
  refine FN.weak (FN.of (draw_ok mix) is_CloneV rfl (Nat.le_of_ble_eq_true rfl) ?_)
  generalize hQ : (fun rs s' => ∃ s2, Sub s2 s' ∧ cloneVP l s rs s2) = Q
  have hq : ∀ rs s' s2, Sub s2 s' → cloneVP l s rs s2 → Q rs s' := fun rs s' s2 h1 h2 => by rw [← hQ]; exact ⟨s2, h1, h2⟩
  rw [ir_CloneV, res_CloneV]
  simp -implicitDefEqProofs only [go_sem, start, startE, resVs, resV, resC, allV, retK, Nat.reduceBEq, Nat.reduceAdd, Nat.reduceMul, Nat.reduceLeDiff, Nat.reduceEqDiff, Nat.reduceBNe, Nat.ble_eq, UInt8.reduceToNat]
  intro v hv
  refine ⟨fun h => hq _ _ s (Sub.refl s) (.inr ⟨List.eq_nil_of_length_eq_zero (hv (by simpa using h)), rfl, 0, rfl⟩), fun _ b1 hb1 => ?_⟩
  rw [srcV_sl, flat_views]
  by_cases hl : l = []
  · subst hl
    refine appendAW_zero rfl rfl (Nat.le_refl 0) ?_
    simp -implicitDefEqProofs only [go_sem, start, startE, resVs, resV, resC, allV, retK, Nat.reduceBEq, Nat.reduceAdd, Nat.reduceMul, Nat.reduceLeDiff, Nat.reduceEqDiff, Nat.reduceBNe, Nat.ble_eq, UInt8.reduceToNat]
    exact hq _ _ s ((Sub.refl s).set hb1) (.inr ⟨rfl, rfl, _, rfl⟩)
  · have hn : 0 < l.length := List.length_pos_iff.2 hl
    refine appendAW_new rfl rfl (by omega) (by rw [Nat.zero_add]; exact hr) fun b2 cap hb2 hcap => ?_
    rw [Nat.zero_add] at hcap
    have hz : (List.replicate (cap - (0 + l.length)) [.int .i64 0, .int .i64 0, .str [], .sl false 4 0 []]).flatten = flat (List.replicate (cap - l.length) (⟨0, 0, ⟨[]⟩, []⟩ : api_Value)) := by
      rw [flat_rep, Nat.zero_add]; rfl
    rw [hz]
    simp -implicitDefEqProofs only [go_sem, start, startE, resVs, resV, resC, allV, retK, Nat.reduceBEq, Nat.reduceAdd, Nat.reduceMul, Nat.reduceLeDiff, Nat.reduceEqDiff, Nat.reduceBNe, Nat.ble_eq, UInt8.reduceToNat, Nat.zero_add, List.nil_append]
    have hb2' : s b2 = none := ((Sub.refl s).set hb1).none hb2
    refine hq _ _ _ (Sub.set2 ((Sub.refl s).set hb1)) (.inl ⟨b2, cap, _, rfl, hb2', by omega, hcap, ?_, ?_, rfl⟩)
    · rw [List.length_append, flat_len, flat_len, List.length_replicate]
      show l.length * 4 + (cap - l.length) * 4 = cap * 4
      omega
    · rw [views_append, flat_views, flat_views]
theorem cloneV_sl {o : Bool} {l : List api_Value} {s : Store} (hr : l.length * 56 ≤ room) : FE Go.Proofs.Tryz.prog 76 [.sl o 4 l.length (flat l)] s [.sl true 4 l.length (flat l)] s :=
  FN.row_sl (flat_len l) (flat_views l) ⟨rfl, rfl⟩ ((cloneV_arr hr).mono fun rs s' h => by
    rcases h with ⟨b, cap, sp, h1, h2, h3, h4, h5, h6, h7⟩ | ⟨h1, h2, h3⟩
    · exact .inl ⟨b, cap, sp, h1, by rw [h7]; exact set_at, h3, h4, h5, by rw [h7, del_set h2]; exact Sub.refl s⟩
    · subst h1; exact .inr ⟨rfl, rfl, by rw [h2]; exact Sub.refl s, h3⟩)
theorem cloneV_us {o : Bool} {l : List api_Value} {s : Store} (hr : l.length * 56 ≤ room) : FE Go.Proofs.Tryz.prog 76 [.sl o 4 l.length (flat l)] s [.us 4 l.length (flat l)] s :=
  FN.row_us (flat_len l) ⟨rfl, rfl⟩ ((cloneV_arr hr).mono fun rs s' h => by
    rcases h with ⟨b, cap, sp, h1, h2, h3, h4, h5, h6, h7⟩ | ⟨h1, h2, h3⟩
    · exact .inl ⟨b, cap, sp, h1, by rw [h7]; exact set_at, h3, h4, h5, h6, by rw [h7, del_set h2]; exact Sub.refl s⟩
    · subst h1; exact .inr ⟨rfl, rfl, by rw [h2]; exact Sub.refl s, h3⟩)

/-- slices.Insert[[]catchword/api.Value,catchword/api.Value] -/
def ir_InsertV : IC :=
 (.seq (.reg none [i1 6 (.mov false (.c (.arr 0 0 0 0)))] [0, 1, 2])
 (.seq (.reg none [mv 10 0,
 mv 11 1,
 i1 12 (.slice 4 (.t 10) (some (.t 11)) none none)] [0, 1, 2])
 (.seq (.reg none [mv 13 2,
 i1 14 (.len 0 (.t 13)),
 mv 7 14] [0, 1, 2, 7])
 (.seq (.seq (.reg none [mv 15 7,
 i1 16 (.bin .eql (.t 15) (.c (.int .i64 0)))] [0, 1, 2, 7, 16])
 (.cond (.t 16) (.seq (.reg none [mv 17 0,
 mv 6 17] [6])
 .ret)
 .skip))
 (.seq (.reg none [mv 18 0,
 i1 19 (.len 0 (.t 18)),
 mv 8 19] [0, 1, 2, 7, 8])
 (.seq (.seq (.reg none [mv 20 1,
 mv 21 8,
 i1 22 (.bin .eql (.t 20) (.t 21))] [0, 1, 2, 7, 8, 22])
 (.cond (.t 22) (.seq (.reg none [mv 23 0,
 mv 24 2,
 i1 25 (.appendA 4 56 [.int .i64 0, .int .i64 0, .str [], .sl false 4 0 []] (.t 23) (.t 24)),
 mv 6 25] [6])
 .ret)
 .skip))
 (.seq (.seq (.reg none [mv 26 8,
 mv 27 7,
 i1 28 (.bin .add (.t 26) (.t 27)),
 mv 29 0,
 i1 30 (.cap (.t 29)),
 i1 31 (.bin .gtr (.t 28) (.t 30))] [0, 1, 2, 7, 8, 31])
 (.cond (.t 31) (.seq (.reg none [mv 32 0,
 mv 33 1,
 i1 34 (.slice 4 (.t 32) none (some (.t 33)) none),
 mv 35 8,
 mv 36 7,
 i1 37 (.bin .add (.t 35) (.t 36)),
 mv 38 1,
 i1 39 (.bin .sub (.t 37) (.t 38)),
 i1 40 (.appendZ 4 56 [.int .i64 0, .int .i64 0, .str [], .sl false 4 0 []] (.t 34) (.t 39)),
 mv 9 40] [0, 1, 2, 7, 9])
 (.seq (.reg none [mv 41 9,
 mv 42 1,
 i1 43 (.slice 4 (.t 41) (some (.t 42)) none none),
 mv 44 2,
 i1 45 (.copyA 4 (.t 43) (.t 44))] [0, 1, 7, 9])
 (.seq (.reg (some 8) [mv 46 9,
 mv 47 1,
 mv 48 7,
 i1 49 (.bin .add (.t 47) (.t 48)),
 i1 50 (.slice 4 (.t 46) (some (.t 49)) none none),
 mv 51 0,
 mv 52 1,
 i1 53 (.slice 4 (.t 51) (some (.t 52)) none none),
 i1 54 (.copyA 4 (.t 50) (.t 53))] [9])
 (.seq (.reg none [mv 55 9,
 mv 6 55] [6])
 .ret))))
 .skip))
 (.seq (.reg none [mv 56 0,
 mv 57 8,
 mv 58 7,
 i1 59 (.bin .add (.t 57) (.t 58)),
 i1 60 (.slice 4 (.t 56) none (some (.t 59)) none),
 mv 0 60] [0, 1, 2, 7, 8])
 (.seq (.seq (.reg none [mv 61 2,
 mv 62 0,
 mv 63 1,
 mv 64 7,
 i1 65 (.bin .add (.t 63) (.t 64)),
 i1 66 (.slice 4 (.t 62) (some (.t 65)) none none),
 i1 67 (.ovl 91 (.t 61) (.t 66)),
 i1 68 (.un .not (.t 67))] [0, 1, 2, 7, 8, 68])
 (.cond (.t 68) (.seq (.reg (some 8) [mv 69 0,
 mv 70 1,
 mv 71 7,
 i1 72 (.bin .add (.t 70) (.t 71)),
 i1 73 (.slice 4 (.t 69) (some (.t 72)) none none),
 mv 74 0,
 mv 75 1,
 i1 76 (.slice 4 (.t 74) (some (.t 75)) none none),
 i1 77 (.copyA 4 (.t 73) (.t 76))] [0, 1, 2])
 (.seq (.reg none [mv 78 0,
 mv 79 1,
 i1 80 (.slice 4 (.t 78) (some (.t 79)) none none),
 mv 81 2,
 i1 82 (.copyA 4 (.t 80) (.t 81))] [0])
 (.seq (.reg none [mv 83 0,
 mv 6 83] [6])
 .ret)))
 .skip))
 (.seq (.reg none [mv 84 0,
 mv 85 8,
 i1 86 (.slice 4 (.t 84) (some (.t 85)) none none),
 mv 87 2,
 i1 88 (.copyA 4 (.t 86) (.t 87))] [0, 1, 7])
 (.seq (.reg none [mv 89 0,
 mv 90 1,
 i1 91 (.slice 4 (.t 89) (some (.t 90)) none none),
 mv 92 7,
 i1 93 (.call 92 [(.t 91), (.t 92)])] [0])
 (.seq (.reg none [mv 94 0,
 mv 6 94] [6])
 .ret))))))))))))
def res_InsertV : List IRes := [⟨6, true, none⟩]
theorem is_InsertV : fnIs Go.Proofs.Tryz.prog 78 95 res_InsertV ir_InsertV = true := by kernel_rfl

def insertVP (l l2 : List api_Value) (i b : Nat) (s : Store) (rs : List AV) (s' : Store) : Prop := ∃ b' cap' sp', rs = [.arr b' 0 (l.length + l2.length) cap'] ∧ s' b' = some (.cells (flat (l.take i ++ l2 ++ l.drop i) ++ sp')) ∧ 0 < cap' ∧ l.length + l2.length ≤ cap' ∧ (flat (l.take i ++ l2 ++ l.drop i) ++ sp').length = cap' * 4 ∧ Sub (s.del b) (s'.del b')
theorem insertV_arr {o : Bool} {b cap i : Nat} {l l2 : List api_Value} {sp : List AV} {s : Store} (hov : OvlIs Go.Proofs.Tryz.prog 91) (hs : s b = some (.cells (flat l ++ sp))) (hl : (flat l ++ sp).length = cap * 4) (hn : l.length ≤ cap) (hi : i ≤ l.length) (h2 : l2 ≠ []) (hr : (l.length + l2.length) * 56 ≤ room) :
    FN Go.Proofs.Tryz.prog 78 [.arr b 0 l.length cap, .int .i64 i, .sl o 4 l2.length (flat l2)] s (insertVP l l2 i b s) := by
  generalize hQ : insertVP l l2 i b s = Q
  have hq : ∀ rs s', insertVP l l2 i b s rs s' → Q rs s' := fun rs s' h => by rw [← hQ]; exact h
  have hm : 0 < l2.length := List.length_pos_iff.2 h2
  unfold room at hr
  have hw1 : w64 ((l.length : Int) + (l2.length : Int)) = ((l.length + l2.length : Nat) : Int) := by rw [w64_id (by omega) (by omega)]; omega
  have hw2 : w64 (((l.length + l2.length : Nat) : Int) - (i : Int)) = ((l.length + l2.length - i : Nat) : Int) := by rw [w64_id (by omega) (by omega)]; omega
  have hw3 : w64 ((i : Int) + (l2.length : Int)) = ((i + l2.length : Nat) : Int) := by rw [w64_id (by omega) (by omega)]; omega
  have hlen : flat l2 ≠ [] := fun e => by
    have := flat_len l2
    rw [e] at this
    have hw : Enc.w api_Value = 4 := rfl
    rw [hw] at this
    simp at this; omega
  have hsp : sp.length = cap * 4 - l.length * 4 := by
    rw [List.length_append, flat_len] at hl
    have hw : Enc.w api_Value = 4 := rfl
    rw [hw] at hl; omega
  have fl : ∀ q : List api_Value, (flat q).length = q.length * 4 := fun q => flat_len q
  refine FN.of (draw_ok mix) is_InsertV rfl (Nat.le_of_ble_eq_true rfl) ?_
  rw [ir_InsertV, res_InsertV]
  simp -implicitDefEqProofs only [go_sem, start, startE, resVs, resV, resC, allV, retK, Nat.reduceBEq, Nat.reduceAdd, Nat.reduceMul, Nat.reduceLeDiff, Nat.reduceEqDiff, Nat.reduceBNe, Nat.ble_eq, UInt8.reduceToNat, hs, hw1, hw2, hw3]
  refine ⟨by omega, fun h => by have := eq_of_beq h; omega, fun _ => ⟨fun h => ?_, fun h => ⟨fun h => ?_, fun h => ?_⟩⟩⟩
  · -- behind all
    have hin : i = l.length := by have := eq_of_beq h; omega
    subst hin
    rw [srcV_sl, flat_views]
    by_cases hf : l.length + l2.length ≤ cap
    · refine appendAW_in rfl hs (by rw [hl]; omega) hf ?_
      rw [Nat.zero_add, row_room l l2 sp 4 rfl (by rw [hsp]; omega)]
      generalize hr2 : flat (l ++ l2) ++ sp.drop (l2.length * 4) = row
      simp -implicitDefEqProofs only [go_sem, start, startE, resVs, resV, resC, allV, retK, Nat.reduceBEq, Nat.reduceAdd, Nat.reduceMul, Nat.reduceLeDiff, Nat.reduceEqDiff, Nat.reduceBNe, Nat.ble_eq, UInt8.reduceToNat]
      refine hq _ _ ⟨b, cap, sp.drop (l2.length * 4), rfl, ?_, by omega, hf, ?_, ?_⟩
      · rw [set_at, ← hr2]; simp [List.append_assoc]
      · rw [List.length_append, fl, List.length_drop, hsp]; simp; omega
      · intro b' o' h'
        unfold Store.del Store.set at *
        split <;> simp_all
    · refine appendAW_new rfl (oldsV_arr hs (by rw [hl]; omega)) (by omega) (by unfold room; omega) fun b2 cap2 hb2 hcap2 => ?_
      replace hb2 : s b2 = none := hb2
      have hb2n : b2 ≠ b := fun e => by subst e; rw [hs] at hb2; cases hb2
      have e0 := row_sub l sp 4 0 l.length rfl (by omega)
      rw [Nat.zero_mul, List.drop_zero, List.take_length] at e0
      rw [e0, flat_views]
      have hz : (List.replicate (cap2 - (l.length + l2.length)) [.int .i64 0, .int .i64 0, .str [], .sl false 4 0 []]).flatten = flat (List.replicate (cap2 - (l.length + l2.length)) (⟨0, 0, ⟨[]⟩, []⟩ : api_Value)) := by
        rw [flat_rep]; rfl
      rw [hz, ← flat_append]
      generalize hr2 : flat (l ++ l2) ++ flat (List.replicate (cap2 - (l.length + l2.length)) (⟨0, 0, ⟨[]⟩, []⟩ : api_Value)) = row
      simp -implicitDefEqProofs only [go_sem, start, startE, resVs, resV, resC, allV, retK, Nat.reduceBEq, Nat.reduceAdd, Nat.reduceMul, Nat.reduceLeDiff, Nat.reduceEqDiff, Nat.reduceBNe, Nat.ble_eq, UInt8.reduceToNat]
      refine hq _ _ ⟨b2, cap2, flat (List.replicate (cap2 - (l.length + l2.length)) (⟨0, 0, ⟨[]⟩, []⟩ : api_Value)), rfl, ?_, by omega, hcap2, ?_, ?_⟩
      · rw [set_at, ← hr2]; simp [List.append_assoc]
      · rw [List.length_append, fl, fl]; simp; omega
      · rw [del_set hb2]
        intro b' o' h'
        unfold Store.del at h'
        split at h' <;> simp_all
  · -- a new row
    have hf : cap < l.length + l2.length := by have := of_decide_eq_true h; omega
    have hin : i < l.length := by
      rename_i hne
      have : ((i : Int) == (l.length : Int)) = false := hne
      simp at this; omega
    refine ⟨by omega, ?_⟩
    refine appendZW_new rfl rfl (oldsV_arr hs (by rw [hl]; omega)) (by omega) (by unfold room; omega) fun b2 cap2 hb2 hcap2 => ?_
    replace hb2 : s b2 = none := hb2
    have hb2n : b2 ≠ b := fun e => by subst e; rw [hs] at hb2; cases hb2
    have e0 := row_sub l sp 4 0 i rfl (by omega)
    rw [Nat.zero_mul, List.drop_zero] at e0
    have hz : ∀ k, (List.replicate k [.int .i64 0, .int .i64 0, .str [], .sl false 4 0 []]).flatten = flat (List.replicate k (⟨0, 0, ⟨[]⟩, []⟩ : api_Value)) := fun k => by rw [flat_rep]; rfl
    have ei : i + (l.length + l2.length - i) = l.length + l2.length := by omega
    rw [e0, flat_views, hz, hz, ← flat_append, ei]
    rw [ei] at hcap2
    generalize hsp2 : flat (List.replicate (cap2 - (l.length + l2.length)) (⟨0, 0, ⟨[]⟩, []⟩ : api_Value)) = sp2
    have hsp2l : sp2.length = cap2 * 4 - (l.length + l2.length) * 4 := by rw [← hsp2, fl, List.length_replicate]; omega
    generalize hq0 : l.take i ++ List.replicate (l.length + l2.length - i) (⟨0, 0, ⟨[]⟩, []⟩ : api_Value) = q0
    have hq0l : q0.length = l.length + l2.length := by rw [← hq0]; simp; omega
    simp -implicitDefEqProofs only [go_sem, start, startE, resVs, resV, resC, allV, retK, Nat.reduceBEq, Nat.reduceAdd, Nat.reduceMul, Nat.reduceLeDiff, Nat.reduceEqDiff, Nat.reduceBNe, Nat.ble_eq, UInt8.reduceToNat, hw1, hw2, hw3]
    refine ⟨by omega, ?_⟩
    rw [arrOff_lt (by omega), srcV_sl, flat_views]
    refine copyAW_in set_at (by rw [List.length_append, fl, hq0l, hsp2l]; omega) ?_
    have emin : min l2.length (l.length + l2.length - i) = l2.length := by omega
    rw [emin, List.take_of_length_le (by rw [fl]; omega), Nat.zero_add, row_set q0 l2 sp2 4 i rfl (by omega)]
    generalize hq1 : q0.take i ++ l2 ++ q0.drop (i + l2.length) = q1
    have hq1l : q1.length = l.length + l2.length := by rw [← hq1]; simp; omega
    simp -implicitDefEqProofs only [go_sem, start, startE, resVs, resV, resC, allV, retK, Nat.reduceBEq, Nat.reduceAdd, Nat.reduceMul, Nat.reduceLeDiff, Nat.reduceEqDiff, Nat.reduceBNe, Nat.ble_eq, UInt8.reduceToNat, hw1, hw2, hw3]
    refine ⟨by omega, by omega, ?_⟩
    rw [arrOff_lt (by omega), arrOff_lt (by omega)]
    rw [srcV_arr (s := s.set b2 (.cells (flat q1 ++ sp2))) (cs := flat l ++ sp) (by unfold Store.set; rw [if_neg hb2n.symm]; exact hs) (by rw [hl]; omega)]
    have e1 := row_sub l sp 4 i (l.length - i) rfl (by omega)
    rw [Nat.zero_add, e1, flat_views, List.take_of_length_le (by simp)]
    refine copyAW_in set_at (by rw [List.length_append, fl, hq1l, hsp2l]; omega) ?_
    have emin2 : min (l.length - i) (l.length + l2.length - (i + l2.length)) = l.length - i := by omega
    rw [emin2, List.take_of_length_le (by rw [fl]; simp), Nat.zero_add, row_set q1 (l.drop i) sp2 4 (i + l2.length) rfl (by simp; omega)]
    have hfin : q1.take (i + l2.length) ++ l.drop i ++ q1.drop (i + l2.length + (l.drop i).length) = l.take i ++ l2 ++ l.drop i := by
      have h3 : q1.drop (i + l2.length + (l.drop i).length) = [] := by rw [List.drop_eq_nil_iff]; simp; omega
      have h4 : q1.take (i + l2.length) = l.take i ++ l2 := by
        rw [← hq1, List.take_append_of_le_length (by simp; omega), List.take_of_length_le (by simp; omega), ← hq0, List.take_append_of_le_length (by simp; omega), List.take_take, Nat.min_self]
      rw [h3, h4, List.append_nil]
    rw [hfin]
    generalize hr2 : flat (l.take i ++ l2 ++ l.drop i) ++ sp2 = row
    simp -implicitDefEqProofs only [go_sem, start, startE, resVs, resV, resC, allV, retK, Nat.reduceBEq, Nat.reduceAdd, Nat.reduceMul, Nat.reduceLeDiff, Nat.reduceEqDiff, Nat.reduceBNe, Nat.ble_eq, UInt8.reduceToNat]
    refine hq _ _ ⟨b2, cap2, sp2, rfl, by rw [hr2]; simp only [set_at], by omega, hcap2, ?_, ?_⟩
    · rw [List.length_append, fl, hsp2l]; simp; omega
    · rw [del_set hb2]
      intro b' o' h'
      unfold Store.del at h'
      split at h' <;> simp_all
  · -- in place
    have hf : l.length + l2.length ≤ cap := by have := of_decide_eq_false h; omega
    have hin : i < l.length := by
      rename_i hne
      have : ((i : Int) == (l.length : Int)) = false := hne
      simp at this; omega
    refine ⟨by omega, by omega, ?_⟩
    rw [arrOff_lt (by omega)]
    refine ovlW_in hov hm hlen (by omega) hs (by rw [hl]; omega) ?_
    simp -implicitDefEqProofs only [go_sem, start, startE, resVs, resV, resC, allV, retK, Nat.reduceBEq, Nat.reduceAdd, Nat.reduceMul, Nat.reduceLeDiff, Nat.reduceEqDiff, Nat.reduceBNe, Nat.ble_eq, UInt8.reduceToNat, hw1, hw2, hw3]
    refine ⟨fun _ => ⟨by omega, by omega, ?_⟩, fun h => by cases h⟩
    rw [arrOff_lt (by omega), arrOff_lt (by omega)]
    rw [srcV_arr hs (by rw [hl]; omega)]
    refine copyAW_in hs (by rw [hl]; omega) ?_
    have emin : min (l.length + l2.length - i) (l.length + l2.length - (i + l2.length)) = l.length - i := by omega
    have esub : (views (AB.sub (flat l ++ sp) (0 + i * 4) ((l.length + l2.length - i) * 4))).take ((l.length - i) * 4) = flat (l.drop i) := by
      have e1 := row_sub l sp 4 i (l.length - i) rfl (by omega)
      have e2 : (AB.sub (flat l ++ sp) (0 + i * 4) ((l.length + l2.length - i) * 4)).take ((l.length - i) * 4) = AB.sub (flat l ++ sp) (i * 4) ((l.length - i) * 4) := by
        unfold AB.sub
        rw [List.take_take, Nat.zero_add, Nat.min_eq_left (Nat.mul_le_mul_right _ (by omega))]
      unfold views
      rw [← List.map_take, e2, e1, List.take_of_length_le (by simp)]
      exact flat_views _
    rw [emin, esub]
    generalize hr1 : setAt (flat l ++ sp) (0 + (i + l2.length) * 4) (flat (l.drop i)) = row1
    have hr1l : row1.length = cap * 4 := by rw [← hr1, setAt_len _ _ _ (by rw [fl, hl]; simp; omega), hl]
    simp -implicitDefEqProofs only [go_sem, start, startE, resVs, resV, resC, allV, retK, Nat.reduceBEq, Nat.reduceAdd, Nat.reduceMul, Nat.reduceLeDiff, Nat.reduceEqDiff, Nat.reduceBNe, Nat.ble_eq, UInt8.reduceToNat, hw1, hw2, hw3]
    refine ⟨by omega, ?_⟩
    rw [arrOff_lt (by omega), srcV_sl, flat_views]
    refine copyAW_in set_at (by rw [hr1l]; omega) ?_
    have emin2 : min l2.length (l.length + l2.length - i) = l2.length := by omega
    rw [emin2, List.take_of_length_le (by rw [fl]; omega), ← hr1, Nat.zero_add, Nat.zero_add, setAt2 _ _ _ (i * 4) ((i + l2.length) * 4) (by rw [fl]; omega) (by rw [fl, hl]; simp; omega)]
    have hrow : (flat l ++ sp).take (i * 4) ++ flat l2 ++ flat (l.drop i) ++ (flat l ++ sp).drop ((i + l2.length) * 4 + (flat (l.drop i)).length) = flat (l.take i ++ l2 ++ l.drop i) ++ sp.drop (l2.length * 4) := by
      have h1 : (flat l ++ sp).take (i * 4) = flat (l.take i) := by
        rw [List.take_append_of_le_length (by rw [fl]; omega), flat_take']; rfl
      have h2 : (i + l2.length) * 4 + (flat (l.drop i)).length = (flat l).length + l2.length * 4 := by rw [fl, fl]; simp; omega
      rw [h1, h2, List.drop_append, List.drop_of_length_le (Nat.le_add_right _ _), flat_append, flat_append]
      simp
    rw [hrow]
    generalize hr2 : flat (l.take i ++ l2 ++ l.drop i) ++ sp.drop (l2.length * 4) = row
    simp -implicitDefEqProofs only [go_sem, start, startE, resVs, resV, resC, allV, retK, Nat.reduceBEq, Nat.reduceAdd, Nat.reduceMul, Nat.reduceLeDiff, Nat.reduceEqDiff, Nat.reduceBNe, Nat.ble_eq, UInt8.reduceToNat]
    refine hq _ _ ⟨b, cap, sp.drop (l2.length * 4), rfl, by rw [hr2]; simp only [set_at], by omega, hf, ?_, ?_⟩
    · rw [List.length_append, fl, List.length_drop, hsp]; simp; omega
    · intro b' o' h'
      unfold Store.del Store.set at *
      split <;> simp_all

end Go.AB
end

section
namespace Go.AB
open Go
theorem ovl_run {P : Program} (w : World) (tS tR e : TypeId) (ht : P.underlying tS = some (.slice e)) (size : Nat) (hz : ∀ w, (Go.sizeOf e).run P w = .ok size w)
    (a b oa ob la ca lb cb : Nat) (hne : a ≠ b) (x y : Array Value) (ta tb : TypeId) (fa : Nat × Nat) (hA : w.heap[a]? = some (.cells x ta fa)) (hB : w.heap[b]? = some (.cells y tb (0, 0))) (hx : x.size ≠ 0) :
    (Extern.SlicesOverlaps.overlaps #[tS, tS] #[tR] #[.slice (some ⟨a, oa, none⟩) la ca, .slice (some ⟨b, ob, none⟩) lb cb]).run P w = .ok (.bool false) w := by
  have hnb : (a != b) = true := by simpa using hne
  have hnb' : (a == b) = false := by simpa using hne
  have hfb : ∀ o, w.frozen? ⟨b, o, none⟩ = false := fun o => by unfold World.frozen?; simp [hB]
  have hsa : w.shape? a = some (ta, x.size) := by unfold World.shape?; rw [hA]
  have hsb : w.shape? b = some (tb, y.size) := by unfold World.shape?; rw [hB]
  change Sem.run P (α := Value) (do
    let some t := (#[tS, tS] : Array TypeId)[0]? | stuck "slices.overlaps: no parameter types"
    let .slice elem ← underlying t | stuck "slices.overlaps: slice type expected"
    let size ← sizeOf elem
    match (some ⟨a, oa, none⟩ : Option Addr), (some ⟨b, ob, none⟩ : Option Addr) with
    | some a, some b =>
      if la = 0 ∨ lb = 0 ∨ size = 0 then pure (Value.bool false)
      else if a.block != b.block && (← frozen a) && (← frozen b) then unsupported .addressObserved
      else do
        if a.block != b.block then do
          noView a; noView b
          if ← mayBeOne a b then return Value.bool ((← choose (.extern "sameAddr.stringBytes" 2)) == 1)
        pure (Value.bool (a.block == b.block && a.off < b.off + lb * size && b.off < a.off + la * size))
    | _, _ => pure (Value.bool false)) w = _
  by_cases h0 : la = 0 ∨ lb = 0 ∨ size = 0
  · simp [run_underlying ht, hz, h0]
  · cases hk : x.size with
    | zero => exact absurd hk hx
    | succ kB =>
      rw [hk] at hsa
      cases hfa : w.frozen? ⟨a, oa, none⟩ <;> cases hfe : w.frozen? ⟨a, kB + 1, none⟩ <;>
        simp [run_underlying ht, hz, h0, hnb, hnb', frozen, noView, viewAt, mayBeOne, stringish, shape, Sem.run, hsa, hsb, hfa, hfe, hfb]
theorem ovl_is {P : Program} {f : FuncId} {tS tR e : TypeId} {m : Nat} (hs : (P.funcs[f]?).isSome = true) (hname : (((P.funcs[f]?).get hs).name == "runtime.NumGoroutine") = false)
    (hb : ((P.funcs[f]?).get hs).body.isNone = true) (hn : Extern.findNext ((P.funcs[f]?).get hs) = none) (he : Extern.find ((P.funcs[f]?).get hs) = some (Extern.SlicesOverlaps.overlaps #[tS, tS] #[tR]))
    (ht : P.underlying tS = some (.slice e)) (hi : sizeIs P e m = true) : OvlIs P f := by
  intro w a b oa la ca ob lb cb ta tb x y fa hne hA hx hB _
  refine ⟨w, ?_, rfl, rfl, rfl, rfl⟩
  rw [run_callFunc_extern (Option.some_get hs).symm hname hb hn he, ovl_run w tS tR e ht m (fun w => run_sizeOf hi w) a b oa ob la ca lb cb hne x y ta tb fa hA hB hx]
  rfl
end Go.AB
end

section
namespace Go.AB
open Go

/-- catchword/value.find -/
def value_find (v_0 : api_Value) (key_1 : Str) : Option (Int) :=
  if v_0.Kind != 7 then
    some (-1)
  else
    jnS (
      bndS (
        iter (fun (i2 : Int) =>
          if decide (i2 < (v_0.L.length : Int)) then
            need (0 ≤ i2 ∧ i2 < v_0.L.length) <|
            need ((((ix v_0.L i2).Kind) == 5) = true → 0 ≤ i2 ∧ i2 < v_0.L.length) <|
            if (((ix v_0.L i2).Kind) == 5) && (((ix v_0.L i2).S).b == key_1.b) then
              some (.inr (.inr i2))
            else
              some (.inl (w64 (i2 + 2)))
          else
            some (.inr (.inl ()))) 0) (fun (_ : Unit) =>
        some (.inl ()))
      (fun (t3 : Int) => some (.inr t3))) (fun (_ : Unit) =>
      some (-1))
    (fun (t1 : Int) => some t1)
def ir_value_find : IC :=
 (.seq (.reg none [i1 2 (.boxL 4 (.t 0)),
 i1 4 (.mov false (.c (.int .i64 0)))] [1, 2])
 (.seq (.seq (.reg none [i1 6 (.fieldAddr 0 (.t 2)),
 i1 7 (.load 1 false (.t 6)),
 i1 8 (.bin .neq (.t 7) (.c (.int .i64 7)))] [1, 2, 8])
 (.cond (.t 8) (.seq (.reg none [i1 4 (.mov false (.c (.int .i64 (-1))))] [4])
 .ret)
 .skip))
 (.join [] (.seq (.reg none [i1 5 (.mov false (.c (.int .i64 0)))] [1, 2, 5])
 (.block 0 (.loop [(1, false), (2, false), (5, false)] (.seq (.seq (.reg none [mv 9 5,
 i1 10 (.fieldAddr 3 (.t 2)),
 i1 11 (.load 1 false (.t 10)),
 i1 12 (.len 0 (.t 11)),
 i1 13 (.bin .lss (.t 9) (.t 12))] [1, 2, 5, 13])
 (.cond (.t 13) .skip
 (.exit 0)))
 (.seq (.block 1 (.seq (.reg none [i1 16 (.fieldAddr 3 (.t 2)),
 i1 17 (.load 1 false (.t 16)),
 mv 18 5,
 i1 19 (.indexAddr [.int .i64 0, .int .i64 0, .str [], .sl false 4 0 []] (.t 17) (.t 18)),
 i1 20 (.fieldAddr 0 (.t 19)),
 i1 21 (.load 1 false (.t 20)),
 i1 22 (.bin .eql (.t 21) (.c (.int .i64 5))),
 mv 23 22,
 i1g 24 23 true (.fieldAddr 3 (.t 2)),
 i1g 25 23 true (.load 1 false (.t 24)),
 mvg 26 5 23 true,
 i1g 27 23 true (.indexAddr [.int .i64 0, .int .i64 0, .str [], .sl false 4 0 []] (.t 25) (.t 26)),
 i1g 28 23 true (.fieldAddr 2 (.t 27)),
 i1g 29 23 true (.load 1 false (.t 28)),
 mvg 30 1 23 true,
 i1g 31 23 true (.bin .eql (.t 29) (.t 30)),
 i1 32 (.pick (.t 23) (.t 31) (.c (.bool false)))] [1, 2, 5, 32])
 (.cond (.t 32) (.seq (.reg none [mv 33 5,
 mv 4 33] [4])
 .ret)
 .skip)))
 (.reg none [mv 14 5,
 i1 15 (.bin .add (.t 14) (.c (.int .i64 2))),
 mv 5 15] [1, 2, 5]))))))
 (.seq (.reg none [i1 4 (.mov false (.c (.int .i64 (-1))))] [4])
 .ret))))
def res_value_find : List IRes := [⟨4, true, none⟩]
theorem is_value_find : fnIs Go.Proofs.Tryz.prog 67 34 res_value_find ir_value_find = true := by kernel_rfl
theorem value_find_fn {v_0 key_1} {s : Store} {Q : List AV → Store → Prop}  : ok (value_find v_0 key_1) (fun r => Q [.int .i64 r] s) → FN Go.Proofs.Tryz.prog 67 [.agg [.int .i64 v_0.Kind, .int .i64 v_0.N, .str v_0.S.b, .sl false 4 v_0.L.length (flat v_0.L)], .str key_1.b] s Q := by
  intro h
  refine FN.of (draw_ok mix) is_value_find rfl (Nat.le_of_ble_eq_true rfl) ?_
  revert h
  rw [ir_value_find, res_value_find, value_find]
  repeat' (first
    | with_reducible exact tt_to
    | with_reducible refine and_to ?_ ?_
    | with_reducible refine im_to ?_
    | ((with_reducible refine iter_to (fun (i2 : Int) => ⟨[(1, .str key_1.b), (2, .loc [.int .i64 v_0.Kind, .int .i64 v_0.N, .str v_0.S.b, .sl false 4 v_0.L.length (flat v_0.L)]), (5, .int .i64 i2)], [], s⟩) ?_ ?_); (first | exact rfl | simp -implicitDefEqProofs only [go_sem, start, startE, resVs, resV, resC, allV, retK, Nat.reduceBEq, Nat.reduceAdd, Nat.reduceMul, Nat.reduceLeDiff, Nat.reduceEqDiff, Nat.reduceBNe, Nat.ble_eq, UInt8.reduceToNat]); rintro J i2)
    | ((with_reducible refine join_toS (fun (_ : Unit) => ⟨[], [], s⟩) (fun J => ?_) ?_); rotate_left; rintro _)
    | simp -implicitDefEqProofs only [go_sem, start, startE, resVs, resV, resC, allV, retK, Nat.reduceBEq, Nat.reduceAdd, Nat.reduceMul, Nat.reduceLeDiff, Nat.reduceEqDiff, Nat.reduceBNe, Nat.ble_eq, UInt8.reduceToNat])
theorem value_find_fe {v_0 key_1} {s : Store} {r : Int}  (h : value_find v_0 key_1 = some r) : FE Go.Proofs.Tryz.prog 67 [.agg [.int .i64 v_0.Kind, .int .i64 v_0.N, .str v_0.S.b, .sl false 4 v_0.L.length (flat v_0.L)], .str key_1.b] s [.int .i64 r] s := value_find_fn   ⟨r, h, rfl, rfl⟩
/-- catchword/value.NameOf -/
def value_NameOf (s_0 : Str) : Option (api_Value) :=
  some (api_Value.mk 5 0 s_0 ([] : List api_Value))
def ir_value_NameOf : IC :=
 (.seq (.reg none [i1 2 (.allocL [.int .i64 0, .int .i64 0, .str [], .sl true 4 0 []])] [0, 2])
 (.seq (.reg none [mv 3 0,
 i1 4 (.build [.int .i64 0, .int .i64 0, .str [], .sl true 4 0 []] [(0, 1, (.c (.int .i64 5))), (2, 1, (.t 3))]),
 i0 (.store 4 (.t 2) (.t 4))] [2])
 .ret))
def res_value_NameOf : List IRes := [⟨2, false, some (4, true)⟩]
theorem is_value_NameOf : fnIs Go.Proofs.Tryz.prog 27 5 res_value_NameOf ir_value_NameOf = true := by kernel_rfl
theorem value_NameOf_fn {s_0} {s : Store} {Q : List AV → Store → Prop}  : ok (value_NameOf s_0) (fun r => Q [.agg [.int .i64 r.Kind, .int .i64 r.N, .str r.S.b, .sl false 4 r.L.length (flat r.L)]] s) → FN Go.Proofs.Tryz.prog 27 [.str s_0.b] s Q := by
  intro h
  refine FN.of (draw_ok mix) is_value_NameOf rfl (Nat.le_of_ble_eq_true rfl) ?_
  revert h
  rw [ir_value_NameOf, res_value_NameOf, value_NameOf]
  repeat' (first
    | with_reducible exact tt_to
    | with_reducible refine and_to ?_ ?_
    | with_reducible refine im_to ?_
    | simp -implicitDefEqProofs only [go_sem, start, startE, resVs, resV, resC, allV, retK, Nat.reduceBEq, Nat.reduceAdd, Nat.reduceMul, Nat.reduceLeDiff, Nat.reduceEqDiff, Nat.reduceBNe, Nat.ble_eq, UInt8.reduceToNat])
theorem value_NameOf_fe {s_0} {s : Store} {r : api_Value}  (h : value_NameOf s_0 = some r) : FE Go.Proofs.Tryz.prog 27 [.str s_0.b] s [.agg [.int .i64 r.Kind, .int .i64 r.N, .str r.S.b, .sl false 4 r.L.length (flat r.L)]] s := value_NameOf_fn   ⟨r, h, rfl, rfl⟩
/-- slices.Replace[[]catchword/api.Value,catchword/api.Value] -/
def ir_ReplaceV : IC :=
 (.seq (.reg none [i1 8 (.mov false (.c (.arr 0 0 0 0)))] [0, 1, 2, 3])
 (.seq (.reg none [mv 15 0,
 mv 16 1,
 mv 17 2,
 i1 18 (.slice 4 (.t 15) (some (.t 16)) (some (.t 17)) none)] [0, 1, 2, 3])
 (.seq (.seq (.reg none [mv 19 1,
 mv 20 2,
 i1 21 (.bin .eql (.t 19) (.t 20))] [0, 1, 2, 3, 21])
 (.cond (.t 21) (.seq (.reg none [mv 22 0,
 mv 23 1,
 mv 24 3,
 i1 25 (.call 78 [(.t 22), (.t 23), (.t 24)]),
 mv 8 25] [8])
 .ret)
 .skip))
 (.seq (.seq (.reg none [mv 26 2,
 mv 27 0,
 i1 28 (.len 0 (.t 27)),
 i1 29 (.bin .eql (.t 26) (.t 28))] [0, 1, 2, 3, 29])
 (.cond (.t 29) (.seq (.reg none [mv 30 0,
 mv 31 1,
 i1 32 (.slice 4 (.t 30) none (some (.t 31)) none),
 mv 33 3,
 i1 34 (.appendA 4 56 [.int .i64 0, .int .i64 0, .str [], .sl false 4 0 []] (.t 32) (.t 33)),
 mv 9 34] [0, 9])
 (.seq (.seq (.reg none [mv 35 9,
 i1 36 (.len 0 (.t 35)),
 mv 37 0,
 i1 38 (.len 0 (.t 37)),
 i1 39 (.bin .lss (.t 36) (.t 38))] [0, 9, 39])
 (.cond (.t 39) (.reg none [mv 40 0,
 mv 41 9,
 i1 42 (.len 0 (.t 41)),
 i1 43 (.slice 4 (.t 40) (some (.t 42)) none none),
 i0 (.clearA [.int .i64 0, .int .i64 0, .str [], .sl false 4 0 []] (.t 43))] [9])
 .skip))
 (.seq (.reg none [mv 44 9,
 mv 8 44] [8])
 .ret)))
 .skip))
 (.seq (.reg (some 13) [mv 45 0,
 mv 46 1,
 i1 47 (.slice 4 (.t 45) none (some (.t 46)) none),
 i1 48 (.len 0 (.t 47)),
 mv 49 3,
 i1 50 (.len 0 (.t 49)),
 i1 51 (.bin .add (.t 48) (.t 50)),
 mv 52 0,
 mv 53 2,
 i1 54 (.slice 4 (.t 52) (some (.t 53)) none none),
 i1 55 (.len 0 (.t 54)),
 i1 56 (.bin .add (.t 51) (.t 55)),
 mv 10 56] [0, 1, 2, 3, 10])
 (.seq (.seq (.reg none [mv 57 10,
 mv 58 0,
 i1 59 (.cap (.t 58)),
 i1 60 (.bin .gtr (.t 57) (.t 59))] [0, 1, 2, 3, 10, 60])
 (.cond (.t 60) (.seq (.reg none [mv 61 0,
 mv 62 1,
 i1 63 (.slice 4 (.t 61) none (some (.t 62)) none),
 mv 64 10,
 mv 65 1,
 i1 66 (.bin .sub (.t 64) (.t 65)),
 i1 67 (.appendZ 4 56 [.int .i64 0, .int .i64 0, .str [], .sl false 4 0 []] (.t 63) (.t 66)),
 mv 11 67] [0, 1, 2, 3, 11])
 (.seq (.reg none [mv 68 11,
 mv 69 1,
 i1 70 (.slice 4 (.t 68) (some (.t 69)) none none),
 mv 71 3,
 i1 72 (.copyA 4 (.t 70) (.t 71))] [0, 1, 2, 3, 11])
 (.seq (.reg (some 9) [mv 73 11,
 mv 74 1,
 mv 75 3,
 i1 76 (.len 0 (.t 75)),
 i1 77 (.bin .add (.t 74) (.t 76)),
 i1 78 (.slice 4 (.t 73) (some (.t 77)) none none),
 mv 79 0,
 mv 80 2,
 i1 81 (.slice 4 (.t 79) (some (.t 80)) none none),
 i1 82 (.copyA 4 (.t 78) (.t 81))] [11])
 (.seq (.reg none [mv 83 11,
 mv 8 83] [8])
 .ret))))
 .skip))
 (.seq (.reg none [mv 84 0,
 mv 85 10,
 i1 86 (.slice 4 (.t 84) none (some (.t 85)) none),
 mv 12 86] [0, 1, 2, 3, 10, 12])
 (.seq (.seq (.reg none [mv 87 1,
 mv 88 3,
 i1 89 (.len 0 (.t 88)),
 i1 90 (.bin .add (.t 87) (.t 89)),
 mv 91 2,
 i1 92 (.bin .leq (.t 90) (.t 91))] [0, 1, 2, 3, 10, 12, 92])
 (.cond (.t 92) (.seq (.reg none [mv 93 12,
 mv 94 1,
 i1 95 (.slice 4 (.t 93) (some (.t 94)) none none),
 mv 96 3,
 i1 97 (.copyA 4 (.t 95) (.t 96))] [0, 1, 2, 3, 10, 12])
 (.seq (.reg (some 9) [mv 98 12,
 mv 99 1,
 mv 100 3,
 i1 101 (.len 0 (.t 100)),
 i1 102 (.bin .add (.t 99) (.t 101)),
 i1 103 (.slice 4 (.t 98) (some (.t 102)) none none),
 mv 104 0,
 mv 105 2,
 i1 106 (.slice 4 (.t 104) (some (.t 105)) none none),
 i1 107 (.copyA 4 (.t 103) (.t 106))] [0, 10, 12])
 (.seq (.reg none [mv 108 0,
 mv 109 10,
 i1 110 (.slice 4 (.t 108) (some (.t 109)) none none),
 i0 (.clearA [.int .i64 0, .int .i64 0, .str [], .sl false 4 0 []] (.t 110))] [12])
 (.seq (.reg none [mv 111 12,
 mv 8 111] [8])
 .ret))))
 .skip))
 (.seq (.seq (.reg none [mv 112 12,
 mv 113 1,
 mv 114 3,
 i1 115 (.len 0 (.t 114)),
 i1 116 (.bin .add (.t 113) (.t 115)),
 i1 117 (.slice 4 (.t 112) (some (.t 116)) none none),
 mv 118 3,
 i1 119 (.ovl 91 (.t 117) (.t 118)),
 i1 120 (.un .not (.t 119))] [0, 1, 2, 3, 12, 120])
 (.cond (.t 120) (.seq (.reg (some 9) [mv 121 12,
 mv 122 1,
 mv 123 3,
 i1 124 (.len 0 (.t 123)),
 i1 125 (.bin .add (.t 122) (.t 124)),
 i1 126 (.slice 4 (.t 121) (some (.t 125)) none none),
 mv 127 0,
 mv 128 2,
 i1 129 (.slice 4 (.t 127) (some (.t 128)) none none),
 i1 130 (.copyA 4 (.t 126) (.t 129))] [1, 3, 12])
 (.seq (.reg none [mv 131 12,
 mv 132 1,
 i1 133 (.slice 4 (.t 131) (some (.t 132)) none none),
 mv 134 3,
 i1 135 (.copyA 4 (.t 133) (.t 134))] [12])
 (.seq (.reg none [mv 136 12,
 mv 8 136] [8])
 .ret)))
 .skip))
 (.seq (.reg none [mv 137 3,
 i1 138 (.len 0 (.t 137)),
 mv 139 2,
 mv 140 1,
 i1 141 (.bin .sub (.t 139) (.t 140)),
 i1 142 (.bin .sub (.t 138) (.t 141)),
 mv 13 142] [0, 1, 2, 3, 12, 13])
 (.seq (.seq (.reg none [mv 143 12,
 mv 144 1,
 mv 145 2,
 i1 146 (.slice 4 (.t 143) (some (.t 144)) (some (.t 145)) none),
 mv 147 3,
 i1 148 (.ovl 91 (.t 146) (.t 147)),
 i1 149 (.un .not (.t 148))] [0, 1, 2, 3, 12, 13, 149])
 (.cond (.t 149) (.seq (.reg (some 7) [mv 150 12,
 mv 151 1,
 mv 152 2,
 i1 153 (.slice 4 (.t 150) (some (.t 151)) (some (.t 152)) none),
 mv 154 3,
 mv 155 13,
 i1 156 (.slice 4 (.t 154) (some (.t 155)) none none),
 i1 157 (.copyA 4 (.t 153) (.t 156))] [0, 1, 3, 12, 13])
 (.seq (.reg (some 7) [mv 158 12,
 mv 159 0,
 i1 160 (.len 0 (.t 159)),
 i1 161 (.slice 4 (.t 158) (some (.t 160)) none none),
 mv 162 3,
 mv 163 13,
 i1 164 (.slice 4 (.t 162) none (some (.t 163)) none),
 i1 165 (.copyA 4 (.t 161) (.t 164))] [1, 12, 13])
 (.seq (.reg none [mv 166 12,
 mv 167 1,
 i1 168 (.slice 4 (.t 166) (some (.t 167)) none none),
 mv 169 13,
 i1 170 (.call 92 [(.t 168), (.t 169)])] [12])
 (.seq (.reg none [mv 171 12,
 mv 8 171] [8])
 .ret))))
 .skip))
 (.seq (.seq (.reg none [mv 172 12,
 mv 173 0,
 i1 174 (.len 0 (.t 173)),
 i1 175 (.slice 4 (.t 172) (some (.t 174)) none none),
 mv 176 3,
 i1 177 (.ovl 91 (.t 175) (.t 176)),
 i1 178 (.un .not (.t 177))] [0, 1, 2, 3, 12, 13, 178])
 (.cond (.t 178) (.seq (.reg (some 7) [mv 179 12,
 mv 180 0,
 i1 181 (.len 0 (.t 180)),
 i1 182 (.slice 4 (.t 179) (some (.t 181)) none none),
 mv 183 3,
 mv 184 13,
 i1 185 (.slice 4 (.t 183) none (some (.t 184)) none),
 i1 186 (.copyA 4 (.t 182) (.t 185))] [1, 2, 3, 12, 13])
 (.seq (.reg (some 7) [mv 187 12,
 mv 188 1,
 mv 189 2,
 i1 190 (.slice 4 (.t 187) (some (.t 188)) (some (.t 189)) none),
 mv 191 3,
 mv 192 13,
 i1 193 (.slice 4 (.t 191) (some (.t 192)) none none),
 i1 194 (.copyA 4 (.t 190) (.t 193))] [1, 12, 13])
 (.seq (.reg none [mv 195 12,
 mv 196 1,
 i1 197 (.slice 4 (.t 195) (some (.t 196)) none none),
 mv 198 13,
 i1 199 (.call 92 [(.t 197), (.t 198)])] [12])
 (.seq (.reg none [mv 200 12,
 mv 8 200] [8])
 .ret))))
 .skip))
 (.seq (.reg none [mv 201 3,
 mv 202 0,
 mv 203 2,
 i1 204 (.slice 4 (.t 202) (some (.t 203)) none none),
 i1 205 (.call 93 [(.t 201), (.t 204)]),
 mv 14 205] [1, 3, 12, 14])
 (.seq (.reg none [mv 206 12,
 mv 207 1,
 i1 208 (.slice 4 (.t 206) (some (.t 207)) none none),
 mv 209 3,
 i1 210 (.copyA 4 (.t 208) (.t 209))] [1, 3, 12, 14])
 (.seq (.reg (some 11) [mv 211 12,
 mv 212 1,
 mv 213 3,
 i1 214 (.len 0 (.t 213)),
 i1 215 (.bin .add (.t 212) (.t 214)),
 i1 216 (.slice 4 (.t 211) (some (.t 215)) none none),
 mv 217 12,
 mv 218 1,
 mv 219 14,
 i1 220 (.bin .add (.t 218) (.t 219)),
 i1 221 (.slice 4 (.t 217) (some (.t 220)) none none),
 i1 222 (.copyA 4 (.t 216) (.t 221))] [12])
 (.seq (.reg none [mv 223 12,
 mv 8 223] [8])
 .ret))))))))))))))))
def res_ReplaceV : List IRes := [⟨8, true, none⟩]
theorem is_ReplaceV : fnIs Go.Proofs.Tryz.prog 77 224 res_ReplaceV ir_ReplaceV = true := by kernel_rfl


/-- slices.Replace of one by one. -/
theorem replaceV_arr {ow : Bool} {b cap i : Nat} {l l2 : List api_Value} {sp : List AV} {s : Store} {Q : List AV → Store → Prop} (hs : s b = some (.cells (flat l ++ sp))) (hl : (flat l ++ sp).length = cap * 4) (hn : l.length ≤ cap) (hi : i < l.length) (hbig : (l.length : Int) < 9223372036854775807) (h1 : l2.length = 1)
    (hq : Q [.arr b 0 l.length cap] (s.set b (.cells (flat (l.take i ++ l2 ++ l.drop (i + 1)) ++ sp)))) :
    FN Go.Proofs.Tryz.prog 77 [.arr b 0 l.length cap, .int .i64 i, .int .i64 (i + 1 : Nat), .sl ow 4 1 (flat l2)] s Q := by
  have fl : ∀ q : List api_Value, (flat q).length = q.length * 4 := fun q => flat_len q
  have hw1 : w64 ((i : Int) + 1) = ((i + 1 : Nat) : Int) := by rw [w64_id (by omega) (by omega)]; omega
  have hw2 : w64 (((i + 1 : Nat) : Int) + ((l.length - (i + 1) : Nat) : Int)) = (l.length : Int) := by rw [w64_id (by omega) (by omega)]; omega
  have hne : ((i : Int) == ((i + 1 : Nat) : Int)) = false := by simp; omega
  have hlt : decide (((i + 1 : Nat) : Int) ≤ ((i + 1 : Nat) : Int)) = true := by simp
  have hcap : decide ((cap : Int) < (l.length : Int)) = false := by simp; omega
  refine FN.of (draw_ok mix) is_ReplaceV rfl (Nat.le_of_ble_eq_true rfl) ?_
  rw [ir_ReplaceV, res_ReplaceV]
  simp -implicitDefEqProofs only [go_sem, start, startE, resVs, resV, resC, allV, retK, Nat.reduceBEq, Nat.reduceAdd, Nat.reduceMul, Nat.reduceLeDiff, Nat.reduceEqDiff, Nat.reduceBNe, Nat.ble_eq, UInt8.reduceToNat, hs, hw1, hw2, hne, hlt, hcap]
  refine ⟨by omega, fun h => h.elim, fun _ => ⟨fun h => ?_, fun h => ?_⟩⟩
  · have hin : i + 1 = l.length := by have := eq_of_beq h; omega
    refine ⟨by omega, ?_⟩
    rw [srcV_sl, flat_views]
    refine appendAW_in rfl hs (by rw [hl]; omega) (by omega) ?_
    have e := row_set l l2 sp 4 i rfl (by omega)
    rw [h1] at e
    rw [Nat.zero_add, e, hin]
    rw [hin] at hq
    generalize hr : flat (l.take i ++ l2 ++ l.drop l.length) ++ sp = row at hq
    simp -implicitDefEqProofs only [go_sem, start, startE, resVs, resV, resC, allV, retK, Nat.reduceBEq, Nat.reduceAdd, Nat.reduceMul, Nat.reduceLeDiff, Nat.reduceEqDiff, Nat.reduceBNe, Nat.ble_eq, UInt8.reduceToNat]
    exact ⟨fun h => absurd (of_decide_eq_true h) (by omega), fun _ => hq⟩
  · have hin : i + 1 < l.length := by
      have : (((i + 1 : Nat) : Int) == (l.length : Int)) = false := h
      simp at this; omega
    refine ⟨by omega, by omega, fun h => False.elim h, fun _ => ⟨by omega, fun _ => ⟨by omega, ?_⟩, fun h => nomatch h⟩⟩
    rw [arrOff_lt (by omega), srcV_sl, flat_views]
    refine copyAW_in hs (by rw [hl]; omega) ?_
    have emin : min 1 (l.length - i) = 1 := by omega
    have e := row_set l l2 sp 4 i rfl (by omega)
    rw [emin, List.take_of_length_le (by rw [fl]; omega), Nat.zero_add, e, h1]
    generalize hl1 : l.take i ++ l2 ++ l.drop (i + 1) = l1 at hq
    have hl1l : l1.length = l.length := by rw [← hl1]; simp; omega
    have hl' : (flat l1 ++ sp).length = cap * 4 := by rw [← hl, List.length_append, List.length_append, fl, fl, hl1l]
    simp -implicitDefEqProofs only [go_sem, start, startE, resVs, resV, resC, allV, retK, Nat.reduceBEq, Nat.reduceAdd, Nat.reduceMul, Nat.reduceLeDiff, Nat.reduceEqDiff, Nat.reduceBNe, Nat.ble_eq, UInt8.reduceToNat, hw1, hw2]
    refine ⟨by omega, by omega, ?_⟩
    rw [arrOff_lt (by omega), srcV_arr set_at (by rw [hl']; omega)]
    have e2 := row_sub l1 sp 4 (i + 1) (l.length - (i + 1)) rfl (by omega)
    rw [Nat.zero_add, e2, flat_views]
    refine copyAW_in set_at (by rw [hl']; omega) ?_
    have e3 : (l1.drop (i + 1)).take (l.length - (i + 1)) = l1.drop (i + 1) := List.take_of_length_le (by simp; omega)
    have e4 := row_set l1 (l1.drop (i + 1)) sp 4 (i + 1) rfl (by simp; omega)
    have e5 : l1.drop (i + 1 + (l1.drop (i + 1)).length) = [] := by rw [List.drop_eq_nil_iff]; simp; omega
    rw [e5, List.append_nil, List.take_append_drop] at e4
    rw [Nat.min_self, e3, List.take_of_length_le (by rw [fl]; simp; omega), e4, set_set]
    simp -implicitDefEqProofs only [go_sem, start, startE, resVs, resV, resC, allV, retK, Nat.reduceBEq, Nat.reduceAdd, Nat.reduceMul, Nat.reduceLeDiff, Nat.reduceEqDiff, Nat.reduceBNe, Nat.ble_eq, UInt8.reduceToNat, hw1, hw2]
    refine ⟨by omega, clearAW_zero (by omega) ?_⟩
    simp -implicitDefEqProofs only [go_sem, start, startE, resVs, resV, resC, allV, retK, Nat.reduceBEq, Nat.reduceAdd, Nat.reduceMul, Nat.reduceLeDiff, Nat.reduceEqDiff, Nat.reduceBNe, Nat.ble_eq, UInt8.reduceToNat]
    exact hq


theorem ovlV : OvlIs Go.Proofs.Tryz.prog 91 := ovl_is (tS := 26) (tR := 4) (e := 28) (m := 4) (by kernel_rfl) (by kernel_rfl) (by kernel_rfl) (by kernel_rfl) (by kernel_rfl) (by kernel_rfl) (by kernel_rfl)

/-- slices.Insert into an empty row without a block. -/
theorem insertV_zero {o : Bool} {b : Nat} {l2 : List api_Value} {s : Store} {Q : List AV → Store → Prop} (h2 : l2 ≠ []) (hr : l2.length * 56 ≤ room)
    (hq : ∀ b' cap' sp', s b' = none → 0 < cap' → l2.length ≤ cap' → (flat l2 ++ sp').length = cap' * 4 → Q [.arr b' 0 l2.length cap'] (s.set b' (.cells (flat l2 ++ sp')))) :
    FN Go.Proofs.Tryz.prog 78 [.arr b 0 0 0, .int .i64 0, .sl o 4 l2.length (flat l2)] s Q := by
  have hm : 0 < l2.length := List.length_pos_iff.2 h2
  have fl : ∀ q : List api_Value, (flat q).length = q.length * 4 := fun q => flat_len q
  have hw1 : w64 (0 + (l2.length : Int)) = (l2.length : Int) := by unfold room at hr; rw [Int.zero_add, w64_id (by omega) (by omega)]
  refine FN.of (draw_ok mix) is_InsertV rfl (Nat.le_of_ble_eq_true rfl) ?_
  rw [ir_InsertV, res_InsertV]
  simp -implicitDefEqProofs only [go_sem, start, startE, resVs, resV, resC, allV, retK, Nat.reduceBEq, Nat.reduceAdd, Nat.reduceMul, Nat.reduceLeDiff, Nat.reduceEqDiff, Nat.reduceBNe, Nat.ble_eq, UInt8.reduceToNat, hw1]
  refine ⟨Int.le_refl _, fun h => absurd (eq_of_beq h) (by omega), fun _ => ⟨fun _ => ?_, fun h => nomatch h⟩⟩
  rw [srcV_sl, flat_views]
  refine appendAW_new rfl rfl (by omega) (by rw [Nat.zero_add]; exact hr) fun b2 cap2 hb2 hcap2 => ?_
  rw [Nat.zero_add] at hcap2
  replace hb2 : s b2 = none := hb2
  simp -implicitDefEqProofs only [go_sem, start, startE, resVs, resV, resC, allV, retK, Nat.reduceBEq, Nat.reduceAdd, Nat.reduceMul, Nat.reduceLeDiff, Nat.reduceEqDiff, Nat.reduceBNe, Nat.ble_eq, UInt8.reduceToNat, Nat.zero_add, List.nil_append]
  refine hq b2 cap2 _ hb2 (by omega) hcap2 ?_
  have hz : (List.replicate (cap2 - l2.length) [.int .i64 0, .int .i64 0, .str [], .sl false 4 0 []]).flatten = flat (List.replicate (cap2 - l2.length) (⟨0, 0, ⟨[]⟩, []⟩ : api_Value)) := by
    rw [flat_rep]; rfl
  rw [hz, List.length_append, fl, fl, List.length_replicate]; omega

def RowIs (s : Store) (b : Nat) (l : List api_Value) (cap : Nat) : Prop := (0 < cap ∧ l.length ≤ cap ∧ ∃ sp, s b = some (.cells (flat l ++ sp)) ∧ (flat l ++ sp).length = cap * 4) ∨ (l = [] ∧ cap = 0)
def Rest (s : Store) (b cap : Nat) : Store := bif cap == 0 then s else s.del b
theorem Sub.trans {s1 s2 s3 : Store} (h : Sub s1 s2) (k : Sub s2 s3) : Sub s1 s3 := fun b o h' => k b o (h b o h')
theorem rest_pos {s : Store} {b cap : Nat} (h : 0 < cap) : Rest s b cap = s.del b := by
  unfold Rest; rw [show (cap == 0) = false by simp; omega]; rfl
theorem cloneV_row {o : Bool} {l : List api_Value} {s : Store} {Q : List AV → Store → Prop} (hr : l.length * 56 ≤ room) (hq : ∀ b cap s', RowIs s' b l cap → Sub s (Rest s' b cap) → Q [.arr b 0 l.length cap] s') :
    FN Go.Proofs.Tryz.prog 76 [.sl o 4 l.length (flat l)] s Q := (cloneV_arr hr).mono fun rs s' h => by
  rcases h with ⟨b, cap, sp, h1, h2, h3, h4, h5, h6, h7⟩ | ⟨h1, h2, b, h3⟩
  · subst h1 h7
    refine hq b cap _ (.inl ⟨h3, h4, sp, set_at, h5⟩) ?_
    rw [rest_pos h3, del_set h2]; exact Sub.refl s
  · subst h1 h2 h3
    exact hq b 0 _ (.inr ⟨rfl, rfl⟩) (Sub.refl _)
theorem insertV_row {o : Bool} {b cap i : Nat} {l l2 : List api_Value} {s s0 : Store} {Q : List AV → Store → Prop} (hrow : RowIs s b l cap) (hsub : Sub s0 (Rest s b cap)) (hi : i ≤ l.length) (h2 : l2 ≠ []) (hr : (l.length + l2.length) * 56 ≤ room)
    (hq : Q [.sl true 4 (l.length + l2.length) (flat (l.take i ++ l2 ++ l.drop i))] s0) : FN Go.Proofs.Tryz.prog 78 [.arr b 0 l.length cap, .int .i64 i, .sl o 4 l2.length (flat l2)] s Q := by
  have hm : 0 < l2.length := List.length_pos_iff.2 h2
  have hlen : (l.take i ++ l2 ++ l.drop i).length = l.length + l2.length := by simp; omega
  refine FN.row_sl (by rw [flat_len, hlen]; rfl) (flat_views _) hq ?_
  rcases hrow with ⟨h3, h4, sp, h5, h6⟩ | ⟨h3, h4⟩
  · refine (insertV_arr ovlV h5 h6 h4 hi h2 hr).mono fun rs s' h => ?_
    obtain ⟨b', cap', sp', k1, k2, k3, k4, k5, k6⟩ := h
    rw [rest_pos h3] at hsub
    exact .inl ⟨b', cap', sp', k1, k2, k3, k4, k5, hsub.trans k6⟩
  · subst h3 h4
    have hi0 : i = 0 := by simpa using hi
    subst hi0
    refine insertV_zero h2 (by simpa using hr) fun b' cap' sp' k1 k2 k3 k4 => .inl ⟨b', cap', sp', ?_, ?_, k2, ?_, ?_, ?_⟩
    · simp
    · simp [set_at]
    · simpa using k3
    · simpa using k4
    · rw [del_set k1]; exact hsub
theorem replaceV_row {ow : Bool} {b cap i : Nat} {l l2 : List api_Value} {s s0 : Store} {Q : List AV → Store → Prop} (hrow : RowIs s b l cap) (hsub : Sub s0 (Rest s b cap)) (hi : i < l.length) (hbig : (l.length : Int) < 9223372036854775807) (h1 : l2.length = 1)
    (hq : Q [.sl true 4 l.length (flat (l.take i ++ l2 ++ l.drop (i + 1)))] s0) : FN Go.Proofs.Tryz.prog 77 [.arr b 0 l.length cap, .int .i64 i, .int .i64 (i + 1 : Nat), .sl ow 4 1 (flat l2)] s Q := by
  have hlen : (l.take i ++ l2 ++ l.drop (i + 1)).length = l.length := by simp; omega
  refine FN.row_sl (by rw [flat_len, hlen]; rfl) (flat_views _) hq ?_
  rcases hrow with ⟨h3, h4, sp, h5, h6⟩ | ⟨h3, h4⟩
  · refine replaceV_arr h5 h6 h4 hi hbig h1 ?_
    rw [rest_pos h3] at hsub
    refine .inl ⟨b, cap, sp, rfl, set_at, h3, h4, ?_, ?_⟩
    · rw [List.length_append, flat_len, hlen, ← flat_len, ← List.length_append, h6]
    · refine hsub.trans ?_
      intro b' o' h'
      unfold Store.del Store.set at *
      split <;> simp_all
  · subst h3; simp at hi
/-- Replacing nothing at the end is inserting. -/
theorem replaceV_end {ow : Bool} {b cap i : Nat} {l l2 : List api_Value} {s s0 : Store} {Q : List AV → Store → Prop} (hrow : RowIs s b l cap) (hsub : Sub s0 (Rest s b cap)) (hi : i = l.length) (h1 : l2.length = 1) (hr : (l.length + 1) * 56 ≤ room)
    (hq : Q [.sl false 4 (l.length + 1) (flat (l ++ l2))] s0) : FN Go.Proofs.Tryz.prog 77 [.arr b 0 l.length cap, .int .i64 i, .int .i64 i, .sl ow 4 1 (flat l2)] s Q := by
  subst hi
  have hn : l.length ≤ cap := by
    rcases hrow with ⟨_, h, _⟩ | ⟨h, _⟩
    · exact h
    · subst h; simp
  refine FN.of (draw_ok mix) is_ReplaceV rfl (Nat.le_of_ble_eq_true rfl) ?_
  rw [ir_ReplaceV, res_ReplaceV]
  simp -implicitDefEqProofs only [go_sem, start, startE, resVs, resV, resC, allV, retK, Nat.reduceBEq, Nat.reduceAdd, Nat.reduceMul, Nat.reduceLeDiff, Nat.reduceEqDiff, Nat.reduceBNe, Nat.ble_eq, UInt8.reduceToNat]
  refine ⟨by omega, fun _ => ?_, fun h => absurd h (by simp)⟩
  have hi := insertV_row (o := false) (i := l.length) (Q := ?_) hrow hsub (Nat.le_refl _) (l2 := l2) (by intro e; subst e; simp at h1) (by rw [h1]; exact hr) ?_
  · rw [h1] at hi
    exact hi
  · rw [h1]
    simp only [List.take_length, List.drop_length, List.append_nil]
    simp -implicitDefEqProofs only [go_sem, start, startE, resVs, resV, resC, allV, retK, Nat.reduceBEq, Nat.reduceAdd, Nat.reduceMul, Nat.reduceLeDiff, Nat.reduceEqDiff, Nat.reduceBNe, Nat.ble_eq, UInt8.reduceToNat]
    rw [← flat_append]
    exact hq
theorem FN.args {P : Program} {f : FuncId} {args args' : List AV} {s : Store} {Q : List AV → Store → Prop} (h : FN P f args' s Q) (ha : ∀ (G : Gh) (w : World) (vs : Array Value), StoreR G w s → ArgsR w G.R args vs → ArgsR w G.R args' vs) : FN P f args s Q :=
  fun G w vs h1 h2 h3 h4 => h G w vs h1 h2 h3 (ha G w vs h3 h4)
theorem arr_nil {w : World} {R : Nat → Nat} {b sz : Nat} {v : Value} (hv : VR w R (.arr b 0 0 0) v) : VR w R (.sl false sz 0 []) v := by
  rcases VR.inv_arr' hv with e | ⟨_, _, e⟩
  · rw [e]; exact .sl false sz 0 [] b 0 0 (fun _ => undef) Fl.nil (by simp) (Nat.zero_le _) (Nat.zero_le _) (fun j c hj => by simp at hj) (fun j c hj => by simp at hj)
  · rw [e]; exact .slnil _ _
theorem find_args {w : World} {R R' : Nat → Nat} {b cap : Nat} {l : List api_Value} {k n : Int} {S key : Str} {vs : Array Value} (mono : ∀ a u, VR w R a u → VR w R' a u) (hv : ∀ u, VR w R (.arr b 0 l.length cap) u → VR w R' (.sl false 4 l.length (flat l)) u)
    (ha : ArgsR w R [.agg [.int .i64 k, .int .i64 n, .str S.b, .arr b 0 l.length cap], .str key.b] vs) : ArgsR w R' [.agg [.int .i64 k, .int .i64 n, .str S.b, .sl false 4 l.length (flat l)], .str key.b] vs := by
  refine ⟨ha.1, fun j a v hj hvs => ?_⟩
  match j, hj with
  | 0, hj =>
    cases hj
    obtain ⟨us, e1, e2, e3, e4⟩ := VR.inv_agg (ha.2 0 _ v rfl hvs)
    subst e1
    refine .agg _ us ?_ e2 fun j c u hc hu => ?_
    · intro c hc
      simp only [List.mem_cons, List.not_mem_nil, or_false] at hc
      rcases hc with rfl | rfl | rfl | rfl <;> rfl
    · match j, hc with
      | 0, hc => cases hc; exact mono _ _ (e3 0 _ u rfl hu)
      | 1, hc => cases hc; exact mono _ _ (e3 1 _ u rfl hu)
      | 2, hc => cases hc; exact mono _ _ (e3 2 _ u rfl hu)
      | 3, hc => cases hc; exact hv u (e3 3 _ u rfl hu)
  | 1, hj => cases hj; exact mono _ _ (ha.2 1 _ v rfl hvs)
theorem find_row {b cap : Nat} {l : List api_Value} {k n r : Int} {S key : Str} {s : Store} {Q : List AV → Store → Prop} (hrow : RowIs s b l cap) (h : value_find ⟨k, n, S, l⟩ key = some r) (hq : Q [.int .i64 r] s) :
    FN Go.Proofs.Tryz.prog 67 [.agg [.int .i64 k, .int .i64 n, .str S.b, .arr b 0 l.length cap], .str key.b] s Q := by
  rcases hrow with ⟨h0, hn, sp, hs, hl⟩ | ⟨h0, h1⟩
  · refine FN.borrow b (l.length * 4) (args' := [.agg [.int .i64 k, .int .i64 n, .str S.b, .sl false 4 l.length (flat l)], .str key.b]) (FE.app (value_find_fe h) ⟨rfl, hq⟩) fun G w vs hst ha => ?_
    refine find_args (fun a u h => h.mono (fun i => ?_) fun _ _ _ => rfl) (fun u hu => arr_view hst (flat_len l) hn (flat_views l) (fun _ => ⟨sp, hs⟩) hu (by decide)) ha
    show G.R i ≤ if i = b ∧ b < w.heap.size then l.length * 4 else G.R i
    split
    · rename_i e
      obtain ⟨q2, q3, _⟩ := hst b _ hs
      rw [e.1, q3]; exact Nat.zero_le _
    · exact Nat.le_refl _
  · subst h0 h1
    exact FN.args (FE.app (value_find_fe h) hq) fun G w vs _ ha => find_args (l := []) (fun _ _ h => h) (fun u hu => arr_nil hu) ha

end Go.AB
end

section
namespace Go.AB
open Go

/-- catchword/value.Put -/
def ir_value_Put : IC :=
 (.seq (.reg none [i1 3 (.boxL 4 (.t 0)),
 i1 5 (.boxL 4 (.t 2)),
 i1 6 (.allocL [.int .i64 0, .int .i64 0, .str [], .sl true 4 0 []])] [1, 3, 5, 6])
 (.seq (.seq (.reg none [i1 10 (.fieldAddr 0 (.t 3)),
 i1 11 (.load 1 false (.t 10)),
 i1 12 (.bin .neq (.t 11) (.c (.int .i64 7)))] [1, 3, 5, 6, 12])
 (.cond (.t 12) (.seq (.reg none [i1 13 (.load 4 true (.t 3)),
 i0 (.store 4 (.t 6) (.t 13))] [6])
 .ret)
 .skip))
 (.seq (.reg none [i1 14 (.fieldAddr 3 (.t 3)),
 i1 15 (.load 1 false (.t 14)),
 i1 16 (.call 76 [(.t 15)]),
 i1 17 (.fieldAddr 3 (.t 3)),
 i0 (.store 1 (.t 17) (.t 16))] [1, 3, 5, 6])
 (.seq (.seq (.reg none [i1 18 (.load 4 true (.t 3)),
 mv 19 1,
 i1 20 (.call 67 [(.t 18), (.t 19)]),
 mv 7 20] [1, 3, 5, 6, 7])
 (.seq (.reg none [mv 21 7,
 i1 22 (.bin .geq (.t 21) (.c (.int .i64 0)))] [1, 3, 5, 6, 7, 22])
 (.cond (.t 22) (.seq (.reg none [i1 23 (.fieldAddr 3 (.t 3)),
 i1 24 (.load 1 false (.t 23)),
 mv 25 7,
 i1 26 (.bin .add (.t 25) (.c (.int .i64 1))),
 mv 27 7,
 i1 28 (.bin .add (.t 27) (.c (.int .i64 2))),
 i1 29 (.fieldAddr 3 (.t 3)),
 i1 30 (.load 1 false (.t 29)),
 i1 31 (.len 0 (.t 30)),
 i1 32 (.minmax false [(.t 28), (.t 31)]),
 i1 33 (.load 4 true (.t 5)),
 i1 34 (.buildSl 4 1 [.int .i64 0, .int .i64 0, .str [], .sl true 4 0 []] [(0, 4, (.t 33))]),
 i1 35 (.call 77 [(.t 24), (.t 26), (.t 32), (.t 34)]),
 i1 36 (.fieldAddr 3 (.t 3)),
 i0 (.store 1 (.t 36) (.t 35))] [3, 6])
 (.seq (.reg none [i1 37 (.load 4 true (.t 3)),
 i0 (.store 4 (.t 6) (.t 37))] [6])
 .ret))
 .skip)))
 (.seq (.reg none [i1 38 (.fieldAddr 3 (.t 3)),
 i1 39 (.load 1 false (.t 38)),
 i1 40 (.len 0 (.t 39)),
 mv 8 40] [1, 3, 5, 6, 8])
 (.seq (.seq (.reg none [i1 9 (.mov false (.c (.int .i64 0)))] [1, 3, 5, 6, 8, 9])
 (.block 0 (.loop [(1, false), (3, false), (5, false), (6, false), (8, false), (9, false)] (.seq (.seq (.reg none [mv 41 9,
 i1 42 (.fieldAddr 3 (.t 3)),
 i1 43 (.load 1 false (.t 42)),
 i1 44 (.len 0 (.t 43)),
 i1 45 (.bin .lss (.t 41) (.t 44))] [1, 3, 5, 6, 8, 9, 45])
 (.cond (.t 45) .skip
 (.exit 0)))
 (.seq (.block 1 (.seq (.reg none [i1 48 (.fieldAddr 3 (.t 3)),
 i1 49 (.load 1 false (.t 48)),
 mv 50 9,
 i1 51 (.indexAddr [.int .i64 0, .int .i64 0, .str [], .sl false 4 0 []] (.t 49) (.t 50)),
 i1 52 (.fieldAddr 0 (.t 51)),
 i1 53 (.load 1 false (.t 52)),
 i1 54 (.bin .eql (.t 53) (.c (.int .i64 5))),
 mv 55 54,
 i1g 56 55 true (.fieldAddr 3 (.t 3)),
 i1g 57 55 true (.load 1 false (.t 56)),
 mvg 58 9 55 true,
 i1g 59 55 true (.indexAddr [.int .i64 0, .int .i64 0, .str [], .sl false 4 0 []] (.t 57) (.t 58)),
 i1g 60 55 true (.fieldAddr 2 (.t 59)),
 i1g 61 55 true (.load 1 false (.t 60)),
 mvg 62 1 55 true,
 i1g 63 55 true (.bin .gtr (.t 61) (.t 62)),
 i1 64 (.pick (.t 55) (.t 63) (.c (.bool false)))] [1, 3, 5, 6, 8, 9, 64])
 (.cond (.t 64) (.seq (.reg none [mv 65 9,
 mv 8 65] [1, 3, 5, 6, 8])
 (.exit 0))
 .skip)))
 (.reg none [mv 46 9,
 i1 47 (.bin .add (.t 46) (.c (.int .i64 2))),
 mv 9 47] [1, 3, 5, 6, 8, 9]))))))
 (.seq (.reg (some 7) [i1 66 (.fieldAddr 3 (.t 3)),
 i1 67 (.load 1 false (.t 66)),
 mv 68 8,
 mv 69 1,
 i1 70 (.call 27 [(.t 69)]),
 i1 71 (.load 4 true (.t 5)),
 i1 72 (.buildSl 4 2 [.int .i64 0, .int .i64 0, .str [], .sl true 4 0 [], .int .i64 0, .int .i64 0, .str [], .sl true 4 0 []] [(0, 4, (.t 70)), (4, 4, (.t 71))]),
 i1 73 (.call 78 [(.t 67), (.t 68), (.t 72)]),
 i1 74 (.fieldAddr 3 (.t 3)),
 i0 (.store 1 (.t 74) (.t 73))] [3, 6])
 (.seq (.reg none [i1 75 (.load 4 true (.t 3)),
 i0 (.store 4 (.t 6) (.t 75))] [6])
 .ret))))))))
def res_value_Put : List IRes := [⟨6, false, some (4, true)⟩]
theorem is_value_Put : fnIs Go.Proofs.Tryz.prog 53 76 res_value_Put ir_value_Put = true := by kernel_rfl


def value_putAt (v : api_Value) (key : Str) : Option Int :=
  iter (fun (i : Int) =>
    if decide (i < (v.L.length : Int)) then
      need (0 ≤ i ∧ i < v.L.length) <|
      need ((((ix v.L i).Kind) == 5) = true → 0 ≤ i ∧ i < v.L.length) <|
      if (((ix v.L i).Kind) == 5) && !((Op.bytesLess ((ix v.L i).S).b key.b) || (((ix v.L i).S).b == key.b)) then some (.inr i)
      else some (.inl (w64 (i + 2)))
    else some (.inr (v.L.length : Int))) 0
def value_Put (v : api_Value) (key : Str) (x : api_Value) : Option api_Value :=
  if v.Kind != 7 then some v else
  need (v.L.length * 56 ≤ room) <|
  bnd (value_find v key) fun i =>
  if decide (i ≥ 0) then
    need (0 ≤ i ∧ i < v.L.length ∧ (v.L.length + 1) * 56 ≤ room) <|
    some ⟨v.Kind, v.N, v.S, v.L.take (i.toNat + 1) ++ [x] ++ v.L.drop (i.toNat + 2)⟩
  else
    bnd (value_putAt v key) fun k =>
    need (0 ≤ k ∧ k ≤ v.L.length ∧ (v.L.length + 2) * 56 ≤ room) <|
    some ⟨v.Kind, v.N, v.S, v.L.take k.toNat ++ [⟨5, 0, key, []⟩, x] ++ v.L.drop k.toNat⟩

theorem rd_row {l : List api_Value} {sp : List AV} {s : Store} {b : Nat} (hs : s b = some (.cells (flat l ++ sp))) {i : Int} (h0 : 0 ≤ i) (hi : i < l.length) (c m : Nat) (hc : c + m ≤ 4) : rdSO m (i.toNat * 4 + c) (s b) = some (views (AB.sub (Enc.cells (ix l i)) c m)) := by
  have hj : i.toNat < l.length := by omega
  have hlen : (flat l).length = l.length * 4 := flat_len l
  have e0 := row_sub l sp 4 i.toNat 1 rfl (by omega)
  have e1 : (l.drop i.toNat).take 1 = [ix l i] := by
    rw [ix_at hj, List.drop_eq_getElem_cons hj]; rfl
  rw [e1, Nat.one_mul] at e0
  have e2 : flat [ix l i] = Enc.cells (ix l i) := by unfold flat; simp
  rw [e2] at e0
  rw [hs]
  show rdCells m _ _ = _
  unfold rdCells
  have hle : i.toNat * 4 + c + m ≤ (flat l ++ sp).length := by rw [List.length_append, hlen]; omega
  rw [← e0]
  unfold AB.sub
  rw [decide_eq_true hle]
  rw [List.drop_take, List.drop_drop, List.take_take, Nat.min_eq_left (by omega)]
  rfl
theorem insertV_row2 {o : Bool} {b cap i m : Nat} {l l2 : List api_Value} {s s0 : Store} {Q : List AV → Store → Prop} (hm : l2.length = m) (hrow : RowIs s b l cap) (hsub : Sub s0 (Rest s b cap)) (hi : i ≤ l.length) (h2 : l2 ≠ []) (hr : (l.length + m) * 56 ≤ room)
    (hq : Q [.sl true 4 (l.length + m) (flat (l.take i ++ l2 ++ l.drop i))] s0) : FN Go.Proofs.Tryz.prog 78 [.arr b 0 l.length cap, .int .i64 i, .sl o 4 m (flat l2)] s Q := by
  subst hm; exact insertV_row hrow hsub hi h2 hr hq
theorem value_Put_fn {v x : api_Value} {key : Str} {s : Store} {Q : List AV → Store → Prop} (h : ok (value_Put v key x) fun r => Q [.agg [.int .i64 r.Kind, .int .i64 r.N, .str r.S.b, .sl false 4 r.L.length (flat r.L)]] s) :
    FN Go.Proofs.Tryz.prog 53 [.agg [.int .i64 v.Kind, .int .i64 v.N, .str v.S.b, .sl false 4 v.L.length (flat v.L)], .str key.b, .agg [.int .i64 x.Kind, .int .i64 x.N, .str x.S.b, .sl false 4 x.L.length (flat x.L)]] s Q := by
  obtain ⟨vk, vn, vs, vl⟩ := v
  refine FN.of (draw_ok mix) is_value_Put rfl (Nat.le_of_ble_eq_true rfl) ?_
  unfold value_Put at h
  rw [ok_ite] at h
  rw [ir_value_Put, res_value_Put]
  simp -implicitDefEqProofs only [go_sem, start, startE, resVs, resV, resC, allV, retK, Nat.reduceBEq, Nat.reduceAdd, Nat.reduceMul, Nat.reduceLeDiff, Nat.reduceEqDiff, Nat.reduceBNe, Nat.ble_eq, UInt8.reduceToNat]
  refine ⟨fun hk => by have h1 := h.1 hk; rw [ok_some] at h1; exact h1, fun hk => ?_⟩
  replace h := h.2 hk
  rw [ok_need, ok_bnd] at h
  obtain ⟨hr, i, hfi, h⟩ := h
  replace hr : vl.length * 56 ≤ room := hr
  refine cloneV_row hr fun b cap s1 hrow hsub => ?_
  simp -implicitDefEqProofs only [go_sem, start, startE, resVs, resV, resC, allV, retK, Nat.reduceBEq, Nat.reduceAdd, Nat.reduceMul, Nat.reduceLeDiff, Nat.reduceEqDiff, Nat.reduceBNe, Nat.ble_eq, UInt8.reduceToNat]
  refine find_row hrow hfi ?_
  rw [ok_ite, ok_need, ok_some, ok_bnd] at h
  simp -implicitDefEqProofs only [go_sem, start, startE, resVs, resV, resC, allV, retK, Nat.reduceBEq, Nat.reduceAdd, Nat.reduceMul, Nat.reduceLeDiff, Nat.reduceEqDiff, Nat.reduceBNe, Nat.ble_eq, UInt8.reduceToNat]
  refine ⟨fun hi => ?_, fun hi => ?_⟩
  · obtain ⟨⟨h1, h2, h3⟩, hq⟩ := h.1 hi
    obtain ⟨j, rfl⟩ : ∃ j : Nat, i = (j : Int) := ⟨i.toNat, by omega⟩
    replace h2 : j < vl.length := by have : (j : Int) < vl.length := h2; omega
    replace h3 : (vl.length + 1) * 56 ≤ room := h3
    unfold room at hr h3
    replace hq : Q [.agg [.int .i64 vk, .int .i64 vn, .str vs.b, .sl false 4 (vl.take (j + 1) ++ [x] ++ vl.drop (j + 2)).length (flat (vl.take (j + 1) ++ [x] ++ vl.drop (j + 2)))]] s := hq
    have hw1 : w64 ((j : Int) + 1) = ((j + 1 : Nat) : Int) := by rw [w64_id (by omega) (by omega)]; omega
    have hw2 : w64 ((j : Int) + 2) = ((j + 2 : Nat) : Int) := by rw [w64_id (by omega) (by omega)]; omega
    have hx : [AV.int .i64 x.Kind, .int .i64 x.N, .str x.S.b, .sl false 4 x.L.length (flat x.L)] = flat [x] := by simp only [go_sem]
    generalize hxs : [x] = xs at hq hx
    have hx1 : xs.length = 1 := by subst hxs; rfl
    simp -implicitDefEqProofs only [go_sem, start, startE, resVs, resV, resC, allV, retK, Nat.reduceBEq, Nat.reduceAdd, Nat.reduceMul, Nat.reduceLeDiff, Nat.reduceEqDiff, Nat.reduceBNe, Nat.ble_eq, UInt8.reduceToNat, hw1, hw2, hx]
    clear h
    by_cases hj : j + 1 = vl.length
    · rw [show min ((j + 2 : Nat) : Int) (vl.length : Int) = ((j + 1 : Nat) : Int) by omega]
      refine replaceV_end hrow hsub hj hx1 h3 ?_
      have e : vl.take (j + 1) ++ xs ++ vl.drop (j + 2) = vl ++ xs := by
        rw [hj, List.take_length, List.drop_of_length_le (by omega), List.append_nil]
      have el : (vl ++ xs).length = vl.length + 1 := by rw [List.length_append, hx1]
      rw [e, el] at hq
      generalize vl ++ xs = L at hq
      simp -implicitDefEqProofs only [go_sem, start, startE, resVs, resV, resC, allV, retK, Nat.reduceBEq, Nat.reduceAdd, Nat.reduceMul, Nat.reduceLeDiff, Nat.reduceEqDiff, Nat.reduceBNe, Nat.ble_eq, UInt8.reduceToNat]
      exact hq
    · rw [show min ((j + 2 : Nat) : Int) (vl.length : Int) = ((j + 1 + 1 : Nat) : Int) by omega]
      refine replaceV_row (i := j + 1) hrow hsub (by omega) (by omega) hx1 ?_
      have el : (vl.take (j + 1) ++ xs ++ vl.drop (j + 2)).length = vl.length := by
        simp only [List.length_append, List.length_take, List.length_drop, hx1]; omega
      rw [el] at hq
      show callK _ _ _ [.sl true 4 vl.length (flat (vl.take (j + 1) ++ xs ++ vl.drop (j + 2)))] s
      generalize vl.take (j + 1) ++ xs ++ vl.drop (j + 2) = L at hq
      simp -implicitDefEqProofs only [go_sem, start, startE, resVs, resV, resC, allV, retK, Nat.reduceBEq, Nat.reduceAdd, Nat.reduceMul, Nat.reduceLeDiff, Nat.reduceEqDiff, Nat.reduceBNe, Nat.ble_eq, UInt8.reduceToNat]
      exact hq
  · obtain ⟨k, hk2, hn⟩ := h.2 hi
    rw [ok_need, ok_some] at hn
    obtain ⟨⟨h1, h2, h3⟩, hq⟩ := hn
    clear h
    obtain ⟨k, rfl⟩ : ∃ k' : Nat, k = (k' : Int) := ⟨k.toNat, by omega⟩
    replace h2 : k ≤ vl.length := by have : (k : Int) ≤ vl.length := h2; omega
    replace h3 : (vl.length + 2) * 56 ≤ room := h3
    replace hq : Q [.agg [.int .i64 vk, .int .i64 vn, .str vs.b, .sl false 4 (vl.take k ++ [⟨5, 0, key, []⟩, x] ++ vl.drop k).length (flat (vl.take k ++ [⟨5, 0, key, []⟩, x] ++ vl.drop k))]] s := hq
    have hx : [AV.int .i64 5, .int .i64 0, .str key.b, .sl false 4 0 [], AV.int .i64 x.Kind, .int .i64 x.N, .str x.S.b, .sl false 4 x.L.length (flat x.L)] = flat [⟨5, 0, key, []⟩, x] := by simp only [go_sem]
    generalize hxs : [(⟨5, 0, key, []⟩ : api_Value), x] = xs at hq hx
    have hx1 : xs.length = 2 := by subst hxs; rfl
    have el : (vl.take k ++ xs ++ vl.drop k).length = vl.length + 2 := by
      simp only [List.length_append, List.length_take, List.length_drop, hx1]; omega
    rw [el] at hq
    have key : ok (value_putAt ⟨vk, vn, vs, vl⟩ key) (fun a => a = (k : Int)) := ⟨_, hk2, rfl⟩
    revert key
    unfold value_putAt
    refine iter_to (fun i => ⟨[(1, .str key.b), (3, .loc [.int .i64 vk, .int .i64 vn, .str vs.b, .arr b 0 vl.length cap]), (5, .loc [.int .i64 x.Kind, .int .i64 x.N, .str x.S.b, .sl false 4 x.L.length (flat x.L)]), (6, .loc [.int .i64 0, .int .i64 0, .str [], .sl true 4 0 []]), (8, .int .i64 vl.length), (9, .int .i64 i)], [], s1⟩) rfl ?_
    intro J i hb
    simp only [ok_ite, ok_need, ok_some, caseS_l, caseS_r] at hb
    simp -implicitDefEqProofs only [go_sem, start, startE, resVs, resV, resC, allV, retK, Nat.reduceBEq, Nat.reduceAdd, Nat.reduceMul, Nat.reduceLeDiff, Nat.reduceEqDiff, Nat.reduceBNe, Nat.ble_eq, UInt8.reduceToNat]
    refine ⟨fun hlt => ?_, fun hge => ?_⟩
    · replace hb := hb.1 hlt
      obtain ⟨⟨b1, b2⟩, _, b4, b5⟩ := hb
      obtain ⟨sp, hs⟩ : ∃ sp, s1 b = some (.cells (flat vl ++ sp)) := by
        rcases hrow with ⟨_, _, sp, h, _⟩ | ⟨h, _⟩
        · exact ⟨sp, h⟩
        · subst h; simp at b2; omega
      have r0 := rd_row hs b1 b2 0 1 (by decide)
      have r2 := rd_row hs b1 b2 2 1 (by decide)
      refine ⟨⟨b1, b2⟩, ?_⟩
      simp -implicitDefEqProofs only [go_sem, start, startE, resVs, resV, resC, allV, retK, Nat.reduceBEq, Nat.reduceAdd, Nat.reduceMul, Nat.reduceLeDiff, Nat.reduceEqDiff, Nat.reduceBNe, Nat.ble_eq, UInt8.reduceToNat, r0, r2]
      refine ⟨fun _ => ⟨b1, b2⟩, fun hc => ?_, b5⟩
      obtain rfl := b4 hc
      refine ⟨[.agg [.int .i64 5, .int .i64 0, .str key.b, .sl false 4 0 []]], rfl, value_NameOf_fe (r := ⟨5, 0, key, []⟩) rfl, ?_⟩
      simp -implicitDefEqProofs only [go_sem, start, startE, resVs, resV, resC, allV, retK, Nat.reduceBEq, Nat.reduceAdd, Nat.reduceMul, Nat.reduceLeDiff, Nat.reduceEqDiff, Nat.reduceBNe, Nat.ble_eq, UInt8.reduceToNat, hx, List.append_nil]
      refine ⟨by rw [flat_len, hx1]; rfl, ?_⟩
      refine insertV_row2 hx1 hrow hsub h2 (by intro e; subst e; simp at hx1) h3 ?_
      generalize vl.take k ++ xs ++ vl.drop k = L at hq
      simp -implicitDefEqProofs only [go_sem, start, startE, resVs, resV, resC, allV, retK, Nat.reduceBEq, Nat.reduceAdd, Nat.reduceMul, Nat.reduceLeDiff, Nat.reduceEqDiff, Nat.reduceBNe, Nat.ble_eq, UInt8.reduceToNat]
      exact hq
    · replace hb := hb.2 hge
      rw [hb]
      refine ⟨[.agg [.int .i64 5, .int .i64 0, .str key.b, .sl false 4 0 []]], rfl, value_NameOf_fe (r := ⟨5, 0, key, []⟩) rfl, ?_⟩
      simp -implicitDefEqProofs only [go_sem, start, startE, resVs, resV, resC, allV, retK, Nat.reduceBEq, Nat.reduceAdd, Nat.reduceMul, Nat.reduceLeDiff, Nat.reduceEqDiff, Nat.reduceBNe, Nat.ble_eq, UInt8.reduceToNat, hx, List.append_nil]
      refine ⟨by rw [flat_len, hx1]; rfl, ?_⟩
      refine insertV_row2 hx1 hrow hsub h2 (by intro e; subst e; simp at hx1) h3 ?_
      generalize vl.take k ++ xs ++ vl.drop k = L at hq
      simp -implicitDefEqProofs only [go_sem, start, startE, resVs, resV, resC, allV, retK, Nat.reduceBEq, Nat.reduceAdd, Nat.reduceMul, Nat.reduceLeDiff, Nat.reduceEqDiff, Nat.reduceBNe, Nat.ble_eq, UInt8.reduceToNat]
      exact hq
theorem value_Put_fe {v_0 x_2 : api_Value} {key_1 : Str} {s : Store} {r : api_Value} (h : value_Put v_0 key_1 x_2 = some r) : FE Go.Proofs.Tryz.prog 53 [.agg [.int .i64 v_0.Kind, .int .i64 v_0.N, .str v_0.S.b, .sl false 4 v_0.L.length (flat v_0.L)], .str key_1.b, .agg [.int .i64 x_2.Kind, .int .i64 x_2.N, .str x_2.S.b, .sl false 4 x_2.L.length (flat x_2.L)]] s [.agg [.int .i64 r.Kind, .int .i64 r.N, .str r.S.b, .sl false 4 r.L.length (flat r.L)]] s :=
  value_Put_fn ⟨r, h, rfl, rfl⟩

/-- catchword/value.Drop -/
def ir_value_Drop : IC :=
 (.seq (.reg none [i1 2 (.boxL 4 (.t 0)),
 i1 4 (.allocL [.int .i64 0, .int .i64 0, .str [], .sl true 4 0 []])] [1, 2, 4])
 (.seq (.reg none [i1 6 (.load 4 true (.t 2)),
 mv 7 1,
 i1 8 (.call 67 [(.t 6), (.t 7)]),
 mv 5 8] [2, 4, 5])
 (.seq (.seq (.reg none [mv 9 5,
 i1 10 (.bin .lss (.t 9) (.c (.int .i64 0)))] [2, 4, 5, 10])
 (.cond (.t 10) (.seq (.reg none [i1 11 (.load 4 true (.t 2)),
 i0 (.store 4 (.t 4) (.t 11))] [4])
 .ret)
 .skip))
 (.seq (.reg (some 10) [i1 12 (.fieldAddr 3 (.t 2)),
 i1 13 (.load 1 false (.t 12)),
 i1 14 (.call 76 [(.t 13)]),
 mv 15 5,
 mv 16 5,
 i1 17 (.bin .add (.t 16) (.c (.int .i64 2))),
 i1 18 (.fieldAddr 3 (.t 2)),
 i1 19 (.load 1 false (.t 18)),
 i1 20 (.len 0 (.t 19)),
 i1 21 (.minmax false [(.t 17), (.t 20)]),
 i1 22 (.callU 82 14 [(.t 14), (.t 15), (.t 21)]),
 i1 23 (.fieldAddr 3 (.t 2)),
 i0 (.store 1 (.t 23) (.t 22))] [2, 4])
 (.seq (.reg none [i1 24 (.load 4 true (.t 2)),
 i0 (.store 4 (.t 4) (.t 24))] [4])
 .ret)))))
def res_value_Drop : List IRes := [⟨4, false, some (4, true)⟩]
theorem is_value_Drop : fnIs Go.Proofs.Tryz.prog 57 25 res_value_Drop ir_value_Drop = true := by kernel_rfl


def value_Drop (v : api_Value) (key : Str) : Option api_Value :=
  bnd (value_find v key) fun i =>
  if decide (i < 0) then some v else
  need (0 ≤ i ∧ i < v.L.length ∧ v.L.length * 56 ≤ room) <|
  some ⟨v.Kind, v.N, v.S, v.L.take i.toNat ++ v.L.drop (min (i.toNat + 2) v.L.length)⟩
theorem value_Drop_fn {v : api_Value} {key : Str} {s : Store} {Q : List AV → Store → Prop} (h : ok (value_Drop v key) fun r => Q [.agg [.int .i64 r.Kind, .int .i64 r.N, .str r.S.b, .sl false 4 r.L.length (flat r.L)]] s) :
    FN Go.Proofs.Tryz.prog 57 [.agg [.int .i64 v.Kind, .int .i64 v.N, .str v.S.b, .sl false 4 v.L.length (flat v.L)], .str key.b] s Q := by
  obtain ⟨vk, vn, vs, vl⟩ := v
  refine FN.of (draw_ok mix) is_value_Drop rfl (Nat.le_of_ble_eq_true rfl) ?_
  unfold value_Drop at h
  rw [ok_bnd] at h
  obtain ⟨i, hfi, h⟩ := h
  rw [ok_ite, ok_need, ok_some, ok_some] at h
  rw [ir_value_Drop, res_value_Drop]
  simp -implicitDefEqProofs only [go_sem, start, startE, resVs, resV, resC, allV, retK, Nat.reduceBEq, Nat.reduceAdd, Nat.reduceMul, Nat.reduceLeDiff, Nat.reduceEqDiff, Nat.reduceBNe, Nat.ble_eq, UInt8.reduceToNat]
  refine FE.app (value_find_fe hfi) ?_
  simp -implicitDefEqProofs only [go_sem, start, startE, resVs, resV, resC, allV, retK, Nat.reduceBEq, Nat.reduceAdd, Nat.reduceMul, Nat.reduceLeDiff, Nat.reduceEqDiff, Nat.reduceBNe, Nat.ble_eq, UInt8.reduceToNat]
  refine ⟨fun hi => h.1 hi, fun hi => ?_⟩
  obtain ⟨⟨h1, h2, h3⟩, hq⟩ := h.2 hi
  obtain ⟨j, rfl⟩ : ∃ j : Nat, i = (j : Int) := ⟨i.toNat, by omega⟩
  replace h2 : j < vl.length := by have : (j : Int) < vl.length := h2; omega
  replace h3 : vl.length * 56 ≤ room := h3
  replace hq : Q [.agg [.int .i64 vk, .int .i64 vn, .str vs.b, .sl false 4 (vl.take j ++ vl.drop (min (j + 2) vl.length)).length (flat (vl.take j ++ vl.drop (min (j + 2) vl.length)))]] s := hq
  have hw2 : w64 ((j : Int) + 2) = ((j + 2 : Nat) : Int) := by unfold room at h3; rw [w64_id (by omega) (by omega)]; omega
  refine ⟨_, rfl, cloneV_us h3, ?_⟩
  simp -implicitDefEqProofs only [go_sem, start, startE, resVs, resV, resC, allV, retK, Nat.reduceBEq, Nat.reduceAdd, Nat.reduceMul, Nat.reduceLeDiff, Nat.reduceEqDiff, Nat.reduceBNe, Nat.ble_eq, UInt8.reduceToNat, hw2]
  refine ⟨fun b cap sp hb h0 hn hl hfl hvw => ?_, fun h0 => by omega⟩
  simp -implicitDefEqProofs only [go_sem, start, startE, resVs, resV, resC, allV, retK, Nat.reduceBEq, Nat.reduceAdd, Nat.reduceMul, Nat.reduceLeDiff, Nat.reduceEqDiff, Nat.reduceBNe, Nat.ble_eq, UInt8.reduceToNat]
  generalize hm : min (j + 2) vl.length = m at hq
  rw [show min ((j + 2 : Nat) : Int) (vl.length : Int) = (m : Int) by omega]
  have el : (vl.take j ++ vl.drop m).length = vl.length - (m - j) := by
    simp only [List.length_append, List.length_take, List.length_drop]; omega
  rw [el] at hq
  refine FN.row_sl (n := vl.length - (m - j)) (cs := flat (vl.take j ++ vl.drop m)) (s2 := s) (sz := 4) (by rw [flat_len, el]; rfl) (flat_views _) ?_ (deleteV_arr set_at hl hn (by omega) (by omega) (by unfold room at h3; omega) ?_)
  · generalize vl.take j ++ vl.drop m = L at hq
    simp -implicitDefEqProofs only [go_sem, start, startE, resVs, resV, resC, allV, retK, Nat.reduceBEq, Nat.reduceAdd, Nat.reduceMul, Nat.reduceLeDiff, Nat.reduceEqDiff, Nat.reduceBNe, Nat.ble_eq, UInt8.reduceToNat]
    exact hq
  · refine .inl ⟨b, cap, _, rfl, set_at, h0, by omega, ?_, ?_⟩
    · have hl' := hl
      rw [List.length_append, flat_len] at hl'
      rw [List.length_append, List.length_append, flat_len, flat_len, el, List.length_replicate]
      have hw : Enc.w api_Value = 4 := rfl
      rw [hw] at hl' ⊢
      omega
    · rw [set_set, del_set hb]; exact Sub.refl s
theorem value_Drop_fe {v_0 : api_Value} {key_1 : Str} {s : Store} {r : api_Value} (h : value_Drop v_0 key_1 = some r) : FE Go.Proofs.Tryz.prog 57 [.agg [.int .i64 v_0.Kind, .int .i64 v_0.N, .str v_0.S.b, .sl false 4 v_0.L.length (flat v_0.L)], .str key_1.b] s [.agg [.int .i64 r.Kind, .int .i64 r.N, .str r.S.b, .sl false 4 r.L.length (flat r.L)]] s :=
  value_Drop_fn ⟨r, h, rfl, rfl⟩

end Go.AB
end

section
namespace Go.AB
open Go

theorem iter_upto {S O : Type} {body : S → Option (S ⊕ O)} {s0 : S} {o : O} (n : Nat) (st : Nat → S) (h0 : st 0 = s0) (hn : n < 18446744073709551615) (hs : ∀ k, k < n → body (st k) = some (.inl (st (k + 1)))) (he : body (st n) = some (.inr o)) : iter body s0 = some o := by
  have key : ∀ j, j ≤ n → ∀ m, iterN body (m + 1 + j) (st (n - j)) = some o := by
    intro j
    induction j with
    | zero =>
      intro _ m
      show iterN body (m + 1) (st n) = some o
      unfold iterN
      rw [he]
    | succ j ih =>
      intro hj m
      show iterN body (m + 1 + j + 1) (st (n - (j + 1))) = some o
      unfold iterN
      rw [hs _ (by omega), show n - (j + 1) + 1 = n - j by omega]
      exact ih (by omega) m
  have := key n (Nat.le_refl n) (18446744073709551616 - 1 - n)
  rw [Nat.sub_self, h0, show 18446744073709551616 - 1 - n + 1 + n = 18446744073709551616 by omega] at this
  exact this

theorem iter_acc {A O : Type} {body : A × Int → Option ((A × Int) ⊕ O)} {a0 : A} {o : O} (n : Nat) (acc : Nat → A) (h0 : acc 0 = a0) (hn : n < 4611686018427387904) (hs : ∀ k, k < n → body (acc k, (k : Int)) = some (.inl (acc (k + 1), w64 ((k : Int) + 1)))) (he : body (acc n, (n : Int)) = some (.inr o)) : iter body (a0, 0) = some o :=
  iter_upto n (fun k => (acc k, (k : Int))) (by rw [h0]; rfl) (by omega) (fun k hk => by
    rw [hs k hk, w64_id (by omega) (by omega)]; rfl) he
theorem iter_cnt {O : Type} {body : Int → Option (Int ⊕ O)} {o : O} (n : Nat) (hn : n < 4611686018427387904) (hs : ∀ k, k < n → body (k : Int) = some (.inl (w64 ((k : Int) + 1)))) (he : body (n : Int) = some (.inr o)) : iter body 0 = some o :=
  iter_upto n (fun k => (k : Int)) rfl (by omega) (fun k hk => by
    rw [hs k hk, w64_id (by omega) (by omega)]; rfl) he
theorem jn_of {α β : Type} {o : Option α} {a : α} {K : α → Option β} {r : Option β} (h : o = some a) (k : K a = r) : jn o K = r := by rw [h]; exact k
theorem bnd_of {α β : Type} {o : Option α} {a : α} {K : α → Option β} {r : Option β} (h : o = some a) (k : K a = r) : bnd o K = r := by rw [h]; exact k
theorem jnS_of {X Y α : Type} {o : Option (X ⊕ Y)} {z : X ⊕ Y} {F : X → Option α} {G : Y → Option α} {r : Option α} (h : o = some z) (k : (match z with | .inl a => F a | .inr b => G b) = r) : jnS o F G = r := by
  rw [h]
  cases z <;> exact k
theorem bndS_of {X Y α : Type} {o : Option (X ⊕ Y)} {z : X ⊕ Y} {F : X → Option α} {G : Y → Option α} {r : Option α} (h : o = some z) (k : (match z with | .inl a => F a | .inr b => G b) = r) : bndS o F G = r := by
  rw [h]
  cases z <;> exact k
theorem need_of {α : Type} {c : Prop} [Decidable c] {o r : Option α} (h : c) (k : o = r) : need c o = r := by rw [need_pos h]; exact k
theorem if_of {α : Type} {c : Prop} [Decidable c] {a b r : α} (h : c) (k : a = r) : (if c then a else b) = r := by rw [if_pos h]; exact k
theorem if_not {α : Type} {c : Prop} [Decidable c] {a b r : α} (h : ¬ c) (k : b = r) : (if c then a else b) = r := by rw [if_neg h]; exact k
inductive Runs {S O : Type} (body : S → Option (S ⊕ O)) : Nat → S → O → Prop
  | stop {m : Nat} {s : S} {o : O} (h : body s = some (.inr o)) : Runs body (m + 1) s o
  | step {m : Nat} {s t : S} {o : O} (h : body s = some (.inl t)) (k : Runs body m t o) : Runs body (m + 1) s o
theorem Runs.iterN {S O : Type} {body : S → Option (S ⊕ O)} {m : Nat} {s : S} {o : O} (h : Runs body m s o) : ∀ n, m ≤ n → iterN body n s = some o := by
  induction h with
  | stop h =>
    intro n hn
    obtain ⟨k, rfl⟩ : ∃ k, n = k + 1 := ⟨n - 1, by omega⟩
    unfold AB.iterN; rw [h]
  | step h _ ih =>
    intro n hn
    obtain ⟨k, rfl⟩ : ∃ k, n = k + 1 := ⟨n - 1, by omega⟩
    unfold AB.iterN; rw [h]
    exact ih k (by omega)
theorem Runs.iter {S O : Type} {body : S → Option (S ⊕ O)} {m : Nat} {s : S} {o : O} (h : Runs body m s o) (hm : m ≤ 18446744073709551616) : iter body s = some o := h.iterN _ hm
end Go.AB
end

section
namespace Go.AB
open Go

/-- An own slice of plain cells that a call hands back: nobody else knows its row. -/
theorem FN.own_us {P : Program} {f : FuncId} {args : List AV} {s : Store} {Q : List AV → Store → Prop} {sz n : Nat} {cs : List AV} (hpl : cs.all plainR = true) (hnu : ∀ x, cs[0]? ≠ some (.int .u8 x)) (hsz : 0 < sz)
    (h : FE P f args noStore [.sl true sz n cs] noStore) (hq : Q [.us sz n cs] s) : FN P f args s Q := by
  intro G w vs h1 h2 h3 h4
  let G1 : Gh := ⟨G.R, fun i => if G.O i = .none then .none else .frame⟩
  have hO1 : ∀ i, G1.O i = .frame ∨ G1.O i = .none := fun i => by
    show (if G.O i = .none then Owner.none else Owner.frame) = _ ∨ _
    by_cases e : G.O i = .none <;> simp [e, G1]
  have hg1 : GoodW G1 w := ⟨fun i hi => by simp [G1, h1.newO i hi], fun i hi => h1.newR i hi⟩
  refine (h G1 w vs hg1 (fun i => (hO1 i).elim (fun e => .inr (.inl e)) .inl) (fun i o hi => by cases hi) h4).mono fun e w' ⟨v, rs, s', G', he, ⟨hrs, _⟩, hg', _, hr, hp⟩ => ?_
  subst hrs
  have hr' : VR w' G'.R (.sl true sz n cs) v ∧ OwnR G' w' (.res 0) (.sl true sz n cs) v := hr
  have same : ∀ i, i < w.heap.size → w'.heap[i]? = w.heap[i]? := fun i hi => hp.frame i hi (hO1 i)
  have hcell : ∀ i j, i < w.heap.size → w'.cell? ⟨i, j, none⟩ = w.cell? ⟨i, j, none⟩ := fun i j hi => World.cell?_of_block (same i hi)
  have hlt : ∀ i, G.O i ≠ .none → i < w.heap.size := fun i hi => h1.lt hi
  have old : ∀ i, i < w.heap.size → G'.O i ≠ .res 0 ∧ G'.R i = G.R i := fun i hi => by
    rcases hO1 i with e | e
    · obtain ⟨q1, q2⟩ := hp.frameO i hi e; exact ⟨by rw [q1]; simp, q2⟩
    · obtain ⟨q1, q2⟩ := hp.noneO i hi e; exact ⟨by rw [q1]; simp, q2⟩
  -- the ghosts behind, but for a new row
  have fin : ∀ (b : Nat), w.heap.size ≤ b → b < w'.heap.size → ∀ G2 : Gh, G2 = ⟨fun i => if i = b then 0 else G'.R i, fun i => if i < w.heap.size then G.O i else if i = b then .res 0 else .none⟩ →
      GoodW G2 w' ∧ StoreR G2 w' s ∧ Pres G w G2 w' := by
    intro b hb1 hb2 G2 hG2
    subst hG2
    have hpres : Pres G w ⟨fun i => if i = b then 0 else G'.R i, fun i => if i < w.heap.size then G.O i else if i = b then .res 0 else .none⟩ w' := by
      refine ⟨hp.os, hp.tape, hp.output, hp.size, fun i hi => ?_, fun i j hi _ => hcell i j hi, fun i hi _ => same i hi, fun i hi ho => ?_, fun i hi ho => ?_⟩
      · show G.R i ≤ if i = b then 0 else G'.R i
        rw [if_neg (by omega), (old i hi).2]; exact Nat.le_refl _
      · refine ⟨?_, ?_⟩
        · show (if i < w.heap.size then G.O i else _) = _
          rw [if_pos hi]; exact ho
        · show (if i = b then 0 else G'.R i) = _
          rw [if_neg (by omega), (old i hi).2]
      · refine ⟨?_, ?_⟩
        · show (if i < w.heap.size then G.O i else _) = _
          rw [if_pos hi]; exact ho
        · show (if i = b then 0 else G'.R i) = _
          rw [if_neg (by omega), (old i hi).2]
    refine ⟨⟨fun i hi => ?_, fun i hi => ?_⟩, ?_, hpres⟩
    · have := hp.size
      show (if i < w.heap.size then G.O i else if i = b then .res 0 else .none) = _
      rw [if_neg (by omega), if_neg (by omega)]
    · show (if i = b then 0 else G'.R i) = 0
      rw [if_neg (by omega), hg'.newR i hi]
    · have hk : ∀ i, G.O i ≠ .none → (if i < w.heap.size then G.O i else if i = b then Owner.res 0 else Owner.none) = G.O i ∧ (if i = b then 0 else G'.R i) = G.R i ∧ w'.heap[i]? = w.heap[i]? := fun i hi => by
        have hi' := hlt i hi
        exact ⟨if_pos hi', by rw [if_neg (by omega), (old i hi').2], same i hi'⟩
      exact h3.mono h1 hpres (fun i hi => by
        obtain ⟨k1, k2, k3⟩ := hk i (by rw [hi]; simp)
        exact ⟨k1.trans hi, k2, k3⟩) (fun i c j _ hc => by
        obtain ⟨k1, k2, k3⟩ := hk c (by rw [hc]; simp)
        exact ⟨k1.trans hc, k2, k3⟩)
  -- nothing new: the first free place stands for the row
  have none_ : UsR ⟨G.R, G.O⟩ w' (.res 0) sz n cs v → ∃ v rs s' G'', e = .returned v ∧ Q rs s' ∧ GoodW G'' w' ∧ StoreR G'' w' s' ∧ ResR G'' w' rs v ∧ Pres G w G'' w' := by
    intro hu
    have hpres : Pres G w G w' := ⟨hp.os, hp.tape, hp.output, hp.size, fun _ _ => Nat.le_refl _, fun i j hi _ => hcell i j hi, fun i hi _ => same i hi, fun i _ ho => ⟨ho, rfl⟩, fun i _ ho => ⟨ho, rfl⟩⟩
    refine ⟨v, _, s, G, he, hq, ⟨fun i hi => h1.newO i (Nat.le_trans hp.size hi), fun i hi => h1.newR i (Nat.le_trans hp.size hi)⟩, h3.mono h1 hpres (fun i hi => ⟨hi, rfl, same i (hlt i (by rw [hi]; simp))⟩) (fun i c j _ hc => ⟨hc, rfl, same c (hlt c (by rw [hc]; simp))⟩), hu, hpres⟩
  rcases VR.inv_sl hr'.1 with ⟨e0, rfl, rfl⟩ | ⟨b, off, cap, e1, hl, hR, hcap, hat⟩
  · exact none_ (.inl ⟨rfl, rfl, .inl e0.own⟩)
  · by_cases hc0 : cap = 0
    · subst hc0
      have hn : n = 0 := by omega
      subst hn
      have hcs : cs = [] := List.eq_nil_of_length_eq_zero (by rw [hl]; simp)
      subst hcs
      exact none_ (.inl ⟨rfl, rfl, .inr ⟨b, off, e1⟩⟩)
    · obtain ⟨b', off', c, t, fz, q1, q2, q3, q4, q5, _, _, rfl, hz, hone⟩ := hr'.2 _ _ _ e1 (by omega)
      injection q1 with q1; injection q1 with q1 q1' _
      subst q1; subst q1'
      have hz : fz = (0, 0) := by
        rcases hz with hz | ⟨hn0, x, hz⟩
        · exact hz
        · obtain ⟨u, u1, u2, _⟩ := hat
          have hlt : 0 < cs.length := by rw [hl]; exact Nat.mul_pos hn0 hsz
          have k1 := u1 0 _ (List.getElem?_eq_getElem hlt)
          rw [Nat.zero_add, cell_of_row w' q4, hz] at k1
          injection k1 with k1
          have k2 := u2 0 _ (List.getElem?_eq_getElem hlt)
          rw [← k1] at k2
          have hp0 := List.all_eq_true.1 hpl _ (List.getElem_mem hlt)
          cases hc : cs[0] with
          | int k y =>
            rw [hc] at k2
            have := VR.inv_int k2
            injection this with t1 t2
            exact absurd (by rw [List.getElem?_eq_getElem hlt, hc, ← t1]) (hnu y)
          | bool y => rw [hc] at k2; have := VR.inv_bool k2; cases this
          | str y => rw [hc] at k2; have := VR.inv_str k2; cases this
          | _ => rw [hc] at hp0; cases hp0
      subst hz
      have hb1 : w.heap.size ≤ b := by
        rcases Nat.lt_or_ge b w.heap.size with hb | hb
        · exact absurd q2 (old b hb).1
        · exact hb
      have hb2 : b < w'.heap.size := (Array.getElem?_eq_some_iff.1 q4).1
      obtain ⟨f1, f2, f3⟩ := fin b hb1 hb2 _ rfl
      refine ⟨v, _, s, _, he, hq, f1, f2, ?_, f3⟩
      obtain ⟨u, u1, u2, u3⟩ := hat
      have hle : cs.length ≤ cap * sz := by rw [hl]; exact Nat.mul_le_mul_right _ hcap
      refine .inr ⟨b, cap, c, t, List.replicate (cap * sz - cs.length) .one, by omega, hcap, e1, ?_, ?_, q4, by rw [q5, Nat.zero_add], hl, by rw [List.length_append, List.length_replicate]; omega, fun j x y hx hy => ?_, fun x hx => ?_, ?_⟩
      · show (if b < w.heap.size then G.O b else if b = b then .res 0 else .none) = _
        rw [if_neg (by omega), if_pos rfl]
      · show (if b = b then 0 else G'.R b) = 0
        rw [if_pos rfl]
      · rcases Nat.lt_or_ge j cs.length with hj | hj
        · rw [List.getElem?_append_left hj] at hx
          have k1 := u1 j x hx
          rw [Nat.zero_add, cell_of_row w' q4, hy] at k1
          injection k1 with k1
          rw [k1]
          exact plainR_vr (List.all_eq_true.1 hpl x (List.mem_of_getElem? hx)) (u2 j x hx)
        · rw [List.getElem?_append_right hj, List.getElem?_replicate] at hx
          split at hx
          · injection hx with hx; rw [← hx]; exact .one _ (hone j y (by rw [← hl]; omega) hy)
          · cases hx
      · rcases List.mem_append.1 hx with hx | hx
        · exact u3 x hx
        · rw [(List.mem_replicate.1 hx).2]; rfl
      · unfold views
        rw [List.map_append, List.map_replicate]
        congr 1
        have : ∀ l : List AV, l.all plainR = true → l.map view = l := fun l h => by
          induction l with
          | nil => rfl
          | cons a l ih =>
            rw [List.all_cons, Bool.and_eq_true] at h
            rw [List.map_cons, ih h.2]
            cases a <;> first | rfl | (cases h.1; done)
        exact this cs hpl
end Go.AB
end
