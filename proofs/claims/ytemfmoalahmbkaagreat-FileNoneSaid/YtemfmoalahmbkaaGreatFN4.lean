/- A part of the proof: Ab23, Ty1, Ty2, Ty3, Mix2, Pure1, Na, Nd, At, Ab24, Ab25, Row, Row2. -/
import Derived.Test.YtemfmoalahmbkaaGreatFN3
import Derived.ProofKit
import Derived.Test.YtemfmoalahmbkaaGreatFN1
import Derived.Test.YtemfmoalahmbkaaGreatProg
import Derived.KernelRfl
import Derived.Laws.RangeAny
import Derived.LoopTactic
import Derived.Lib.Bytealg
import Derived.Laws.Externs
import Derived.Lib.Walk
set_option linter.unusedSimpArgs false
set_option linter.unusedVariables false
section
namespace Go.AB
open Go Go.RowKit
def rowsOf (w : World) (b : Nat) : Nat := match w.heap[b]? with
  | some (.cells c _ _) => c.size
  | _ => 0
def noStore : Store := fun _ => none
section
variable {P : Program} {w w' : World}
theorem law_calls {f : FuncId} {args : List AV} {vs : Array Value} (hf : FN P f args noStore fun rs _ => rs = [.bool true]) (ha : ArgsR w (rowsOf w) args vs) :
    Calls P f vs w fun e w' => e = .returned (.bool true) ∧ Below w.heap.size w w' := by
  refine (hf ⟨rowsOf w, fun _ => .none⟩ w vs ⟨fun _ _ => rfl, fun b hb => ?_⟩ (fun b => .inl rfl) (fun b o h => by cases h) ha).mono fun e w' ⟨v, rs, s', G', he, hq, _, _, hr, hp⟩ => ?_
  · show rowsOf w b = 0
    unfold rowsOf
    rw [Array.getElem?_eq_none hb]
  · subst hq
    refine ⟨?_, ⟨hp.os, hp.tape, hp.output, hp.size, fun b hb => hp.frame b hb (.inr rfl)⟩⟩
    rw [he]
    have := VR.inv_bool hr.1
    rw [this]
end
end Go.AB
end

section
namespace Go.AB
open Go
theorem views_append (a b : List AV) : views (a ++ b) = views a ++ views b := by simp [views]
theorem views_flatten : ∀ l : List (List AV), (∀ x ∈ l, views x = x) → views l.flatten = l.flatten
  | [], _ => rfl
  | a :: l, h => by rw [List.flatten_cons, views_append, h a List.mem_cons_self, views_flatten l fun x hx => h x (List.mem_cons_of_mem _ hx)]
class Enc (α : Type) where
  w : Nat
  cells : α → List AV
  zero : α
  pos : 0 < w
  len : ∀ x, (cells x).length = w
  vw : ∀ x, views (cells x) = cells x
structure Str where
  b : List UInt8
  deriving DecidableEq, Inhabited
section
variable {α : Type} [Enc α]
def flat (l : List α) : List AV := (l.map Enc.cells).flatten
def ix (l : List α) (i : Int) : α := l.getD i.toNat Enc.zero
theorem flat_len : ∀ l : List α, (flat l).length = l.length * Enc.w α
  | [] => by simp [flat]
  | a :: l => by
    have := flat_len l
    simp only [flat, List.map_cons, List.flatten_cons, List.length_append, Enc.len] at this ⊢
    rw [this, List.length_cons, Nat.add_mul, Nat.one_mul, Nat.add_comm]
@[go_sem] theorem flat_nil : flat ([] : List α) = [] := rfl
@[go_sem] theorem flat_cons (a : α) (l : List α) : flat (a :: l) = Enc.cells a ++ flat l := rfl
@[go_sem] theorem flat_append (a b : List α) : flat (a ++ b) = flat a ++ flat b := by simp [flat]
@[go_sem] theorem flat_views (l : List α) : views (flat l) = flat l := views_flatten _ fun x hx => by
  obtain ⟨y, _, rfl⟩ := List.mem_map.1 hx
  exact Enc.vw y
theorem flat_drop (l : List α) : ∀ k, (flat l).drop (k * Enc.w α) = flat (l.drop k) := by
  induction l with
  | nil => intro k; simp [flat]
  | cons a l ih => intro k; cases k with
    | zero => simp
    | succ k =>
      rw [flat_cons, List.drop_succ_cons, ← ih k, Nat.succ_mul, Nat.add_comm, ← List.drop_drop]
      congr 1
      rw [← Enc.len a, List.drop_left]
theorem flat_take (l : List α) : ∀ k, (flat l).take (k * Enc.w α) = flat (l.take k) := by
  induction l with
  | nil => intro k; simp [flat]
  | cons a l ih => intro k; cases k with
    | zero => simp [flat_nil]
    | succ k =>
      rw [flat_cons, List.take_succ_cons, flat_cons, ← ih k, Nat.succ_mul, Nat.add_comm, List.take_append]
      rw [Enc.len a, List.take_of_length_le (by rw [Enc.len]; omega)]
      congr 2
      omega
theorem flat_sub (l : List α) (n lo m : Nat) (hn : n = Enc.w α) : AB.sub (flat l) (lo * n) (m * n) = flat ((l.drop lo).take m) := by
  subst hn
  unfold AB.sub
  rw [flat_drop, flat_take]
theorem flat_pad (z : List AV) (n : Nat) (l : List α) (i : Int) (hz : z = Enc.cells (Enc.zero : α)) (hn : n = Enc.w α) : pad z (views (AB.sub (flat l) (i.toNat * n) n)) = Enc.cells (ix l i) := by
  subst hn
  have h1 : AB.sub (flat l) (i.toNat * Enc.w α) (Enc.w α) = flat ((l.drop i.toNat).take 1) := by
    have := flat_sub l (Enc.w α) i.toNat 1 rfl
    rwa [Nat.one_mul] at this
  rw [h1, flat_views]
  unfold pad ix
  rcases Nat.lt_or_ge i.toNat l.length with hlt | hge
  · rw [List.drop_eq_getElem_cons hlt, List.take_succ_cons, List.take_zero, flat_cons, flat_nil, List.append_nil, hz, Enc.len, Enc.len, beq_self_eq_true]
    simp [List.getD, List.getElem?_eq_getElem hlt]
  · rw [List.drop_eq_nil_of_le hge, List.take_nil, flat_nil, hz, Enc.len]
    have : (([] : List AV).length == Enc.w α) = false := by
      have := Enc.pos (α := α)
      simp; omega
    rw [this]
    simp [List.getD, List.getElem?_eq_none hge]
def part (l : List α) (lo hi : Int) : List α := (l.drop lo.toNat).take (hi - lo).toNat
theorem flat_part (n : Nat) (l : List α) (lo hi : Int) (hn : n = Enc.w α) : AB.sub (flat l) (lo.toNat * n) ((hi - lo).toNat * n) = flat (part l lo hi) := flat_sub l n _ _ hn
theorem flat_div (n : Nat) (l : List α) (hn : n = Enc.w α) : (flat l).length / n = l.length := by
  subst hn
  rw [flat_len]; exact Nat.mul_div_cancel _ Enc.pos
end
instance : Enc Bool := ⟨1, fun b => [.bool b], false, Nat.one_pos, fun _ => rfl, fun _ => rfl⟩
instance : Enc Int := ⟨1, fun n => [.int .i64 n], 0, Nat.one_pos, fun _ => rfl, fun _ => rfl⟩
instance : Enc UInt8 := ⟨1, fun n => [.int .u8 n.toNat], 0, Nat.one_pos, fun _ => rfl, fun _ => rfl⟩
instance : Enc UInt32 := ⟨1, fun n => [.int .u32 n.toNat], 0, Nat.one_pos, fun _ => rfl, fun _ => rfl⟩
instance : Enc UInt64 := ⟨1, fun n => [.int .u64 n.toNat], 0, Nat.one_pos, fun _ => rfl, fun _ => rfl⟩
instance : Enc Str := ⟨1, fun s => [.str s.b], ⟨[]⟩, Nat.one_pos, fun _ => rfl, fun _ => rfl⟩
instance {α : Type} [Enc α] : Enc (List α) := ⟨1, fun l => [.sl false (Enc.w α) l.length (flat l)], [], Nat.one_pos, fun _ => rfl, fun _ => rfl⟩
@[go_sem] theorem cells_bool (x : Bool) : Enc.cells x = [.bool x] := rfl
@[go_sem] theorem cells_int (x : Int) : Enc.cells x = [.int .i64 x] := rfl
@[go_sem] theorem cells_u8 (x : UInt8) : Enc.cells x = [.int .u8 x.toNat] := rfl
@[go_sem] theorem cells_u32 (x : UInt32) : Enc.cells x = [.int .u32 x.toNat] := rfl
@[go_sem] theorem cells_u64 (x : UInt64) : Enc.cells x = [.int .u64 x.toNat] := rfl
@[go_sem] theorem cells_str (x : Str) : Enc.cells x = [.str x.b] := rfl
@[go_sem] theorem cells_list {α : Type} [Enc α] (x : List α) : Enc.cells x = [.sl false (Enc.w α) x.length (flat x)] := rfl
@[go_sem] theorem w_bool : Enc.w Bool = 1 := rfl
@[go_sem] theorem w_int : Enc.w Int = 1 := rfl
@[go_sem] theorem w_u8 : Enc.w UInt8 = 1 := rfl
@[go_sem] theorem w_u32 : Enc.w UInt32 = 1 := rfl
@[go_sem] theorem w_u64 : Enc.w UInt64 = 1 := rfl
@[go_sem] theorem w_str : Enc.w Str = 1 := rfl
@[go_sem] theorem w_list {α : Type} [Enc α] : Enc.w (List α) = 1 := rfl
@[go_sem] theorem pad_bool (l : List Bool) (i : Int) : pad [.bool false] (views (AB.sub (flat l) (i.toNat * 1) 1)) = [.bool (ix l i)] := flat_pad _ 1 l i rfl rfl
@[go_sem] theorem pad_int (l : List Int) (i : Int) : pad [.int .i64 0] (views (AB.sub (flat l) (i.toNat * 1) 1)) = [.int .i64 (ix l i)] := flat_pad _ 1 l i rfl rfl
@[go_sem] theorem pad_u8 (l : List UInt8) (i : Int) : pad [.int .u8 0] (views (AB.sub (flat l) (i.toNat * 1) 1)) = [.int .u8 (ix l i).toNat] := flat_pad _ 1 l i rfl rfl
@[go_sem] theorem pad_u32 (l : List UInt32) (i : Int) : pad [.int .u32 0] (views (AB.sub (flat l) (i.toNat * 1) 1)) = [.int .u32 (ix l i).toNat] := flat_pad _ 1 l i rfl rfl
@[go_sem] theorem pad_str (l : List Str) (i : Int) : pad [.str []] (views (AB.sub (flat l) (i.toNat * 1) 1)) = [.str (ix l i).b] := flat_pad _ 1 l i rfl rfl
@[go_sem] theorem pad_list {α : Type} [Enc α] (l : List (List α)) (i : Int) (n : Nat) (hn : n = Enc.w α) : pad [.sl false n 0 []] (views (AB.sub (flat l) (i.toNat * 1) 1)) = [.sl false (Enc.w α) (ix l i).length (flat (ix l i))] := by
  subst hn
  exact flat_pad _ 1 l i rfl rfl
end Go.AB
end

section
namespace Go.AB
open Go
def ok {α : Type} (o : Option α) (K : α → Prop) : Prop := ∃ a, o = some a ∧ K a
def need {α : Type} (c : Prop) [Decidable c] (o : Option α) : Option α := if c then o else none
def whenB {α : Type} (g : Bool) (z : α) (o : Option α) : Option α := bif g then o else some z
def bnd {α β : Type} (o : Option α) (f : α → Option β) : Option β := match o with
  | some a => f a
  | none => none
def iterN {S O : Type} (body : S → Option (S ⊕ O)) : Nat → S → Option O
  | 0, _ => none
  | n + 1, s => match body s with
    | none => none
    | some (.inl t) => iterN body n t
    | some (.inr o) => some o
def iter {S O : Type} (body : S → Option (S ⊕ O)) (s : S) : Option O := iterN body 18446744073709551616 s
def caseS {A B C : Type} (f : A → C) (g : B → C) : A ⊕ B → C
  | .inl a => f a
  | .inr b => g b
section
variable {α β : Type} (K : α → Prop)
@[go_sem] theorem ok_some (a : α) : ok (some a) K = K a := by simp [ok]
@[go_sem] theorem ok_none : ok none K = False := by simp [ok]
@[go_sem] theorem ok_need (c : Prop) [Decidable c] (o : Option α) : ok (need c o) K = (c ∧ ok o K) := by
  unfold need
  by_cases h : c <;> simp [h, ok]
@[go_sem] theorem ok_bnd (o : Option β) (f : β → Option α) : ok (bnd o f) K = ok o (fun b => ok (f b) K) := by cases o <;> simp [bnd, ok]
@[go_sem] theorem ok_ite (c : Bool) (a b : Option α) : ok (if c = true then a else b) K = ((c = true → ok a K) ∧ (c = false → ok b K)) := by cases c <;> simp
theorem ok_when (g : Bool) (z : α) (o : Option α) : ok (whenB g z o) K = ∃ a, (g = true → o = some a) ∧ (g = false → a = z) ∧ K a := by
  cases g <;> simp [whenB, ok]
@[go_sem] theorem caseS_l {A B C : Type} (f : A → C) (g : B → C) (a : A) : caseS f g (.inl a) = f a := rfl
@[go_sem] theorem caseS_r {A B C : Type} (f : A → C) (g : B → C) (b : B) : caseS f g (.inr b) = g b := rfl
end
theorem and_to {A B C D : Prop} (h : A → C) (k : B → D) : A ∧ B → C ∧ D := fun x => ⟨h x.1, k x.2⟩
theorem im_to {p A B : Prop} (h : A → B) : (p → A) → p → B := fun x y => h (x y)
theorem tt_to {A : Prop} : A → A := fun h => h
theorem im_to' {p A B : Prop} (h : p → A → B) : (p → A) → p → B := fun x y => h y (x y)
variable {P : Program}
theorem call_to {β : Type} {o : Option β} {kf : β → Prop} {f : FuncId} {as1 : List AV} {s : Store} {enc : β → List AV} {Q : List AV → Store → Prop}
    (hf : ∀ r, o = some r → FE P f as1 s (enc r) s) (hk : ∀ r, kf r → Q (enc r) s) : ok o kf → FN P f as1 s Q := fun ⟨r, h, k⟩ => FE.app (hf r h) (hk r k)
theorem call_to_q {β : Type} {o : Option β} {kf : β → Prop} {f : FuncId} {as1 : List AV} {s : Store} {enc : β → List AV} {Q : List AV → Prop}
    (hf : ∀ r, o = some r → FE P f as1 s (enc r) s) (hr : ∀ r, rsOK (enc r) = true) (hk : ∀ r, kf r → Q (enc r)) : ok o kf → ∃ rs, rsOK rs = true ∧ FE P f as1 s rs s ∧ Q rs :=
  fun ⟨r, h, k⟩ => ⟨enc r, hr r, hf r h, hk r k⟩
theorem call_to_g {β : Type} {g : Bool} {z : β} {o : Option β} {kf : β → Prop} {f : FuncId} {as1 : Option (List AV)} {as2 : List AV} {s : Store} {enc : β → List AV} {Q : List AV → Prop}
    (ha : as1 = some as2) (hf : ∀ r, o = some r → FE P f as2 s (enc r) s) (hr : ∀ r, rsOK (enc r) = true) (hk : ∀ r, kf r → Q (enc r)) :
    ok (whenB g z o) kf → ∃ rs, rsOK rs = true ∧ (g = true → ∃ as2, as1 = some as2 ∧ FE P f as2 s rs s) ∧ Q rs := fun h => by
  rw [ok_when] at h
  obtain ⟨r, h1, _, k⟩ := h
  exact ⟨enc r, hr r, fun hg => ⟨as2, ha, hf r (h1 hg)⟩, hk r k⟩
def okj {α : Type} (o : Option α) (K : α → Prop) : Prop := ok o K
def jn {α β : Type} (o : Option α) (f : α → Option β) : Option β := bnd o f
@[go_sem] theorem ok_jn {α β : Type} (K : α → Prop) (o : Option β) (f : β → Option α) : ok (jn o f) K = okj o (fun b => ok (f b) K) := ok_bnd ..
theorem join_to {X : Type} {M : Option X} {kf : X → Prop} {live : List (Nat × Bool)} {a b : IC} {Q : Exit → St → Prop} {σ : St} (enc : X → St)
    (ha : ∀ J : St → Prop, ok M (fun x => J (enc x)) → cwp P a (joinK live J Q) σ) (hb : ∀ x, kf x → cwp P b Q (enc x)) : okj M kf → cwp P (.join live a b) Q σ := fun ⟨x, h, k⟩ =>
  ⟨fun τ => ∃ x, τ = enc x ∧ kf x, ha _ ⟨x, h, x, rfl, k⟩, fun _ ⟨x, e, k⟩ => e ▸ hb x k⟩
theorem iterN_zero {S O : Type} {body : S → Option (S ⊕ O)} {s : S} {K : O → Prop} : ¬ ok (iterN body 0 s) K := fun ⟨_, h, _⟩ => by cases h
theorem iterN_succ {S O : Type} {body : S → Option (S ⊕ O)} {n : Nat} {s : S} {K : O → Prop} (h : ok (iterN body (n + 1) s) K) : ok (body s) (caseS (fun t => ok (iterN body n t) K) K) := by
  obtain ⟨o, h, k⟩ := h
  unfold iterN at h
  cases hb : body s with
  | none => rw [hb] at h; cases h
  | some x =>
    rw [hb] at h
    cases x with
    | inl t => exact ⟨_, rfl, ⟨o, h, k⟩⟩
    | inr o' => cases h; exact ⟨_, rfl, k⟩
theorem loopK_join {live : List (Nat × Bool)} {I : St → Prop} {μ : St → Nat} {m : Nat} {Q : Exit → St → Prop} : loopK live I μ m Q = joinK live (fun ρ => I ρ ∧ μ ρ < m) Q := by
  funext x ρ; cases x <;> rfl
theorem iter_to {S O : Type} {body : S → Option (S ⊕ O)} {s0 : S} {kf : O → Prop} {live : List (Nat × Bool)} {b : IC} {Q : Exit → St → Prop} {σ : St} (enc : S → St)
    (h0 : σ.keepV live = enc s0)
    (hb : ∀ (J : St → Prop) (s : S), ok (body s) (caseS (fun t => J (enc t)) kf) → cwp P b (joinK live J Q) (enc s)) : ok (iter body s0) kf → cwp P (.loop live b) Q σ := by
  intro h
  have hmin : ∀ τ, (∃ m s, τ = enc s ∧ ok (iterN body m s) kf) → ∃ m, (∃ s, τ = enc s ∧ ok (iterN body m s) kf) ∧ ∀ k, k < m → ¬ ∃ s, τ = enc s ∧ ok (iterN body k s) kf := by
    rintro τ ⟨m, s, h⟩
    induction m using Nat.strongRecOn generalizing s with
    | _ m ih =>
      by_cases hk : ∃ k, k < m ∧ ∃ s, τ = enc s ∧ ok (iterN body k s) kf
      · obtain ⟨k, hk, s', h'⟩ := hk
        exact ih k hk s' h'
      · exact ⟨m, ⟨s, h⟩, fun k hk' hs => hk ⟨k, hk', hs⟩⟩
  have hμ : ∃ μ : St → Nat, ∀ τ, (∃ m s, τ = enc s ∧ ok (iterN body m s) kf) → (∃ s, τ = enc s ∧ ok (iterN body (μ τ) s) kf) ∧ ∀ k, k < μ τ → ¬ ∃ s, τ = enc s ∧ ok (iterN body k s) kf := by
    exact ⟨fun τ => Classical.epsilon fun m => (∃ s, τ = enc s ∧ ok (iterN body m s) kf) ∧ ∀ k, k < m → ¬ ∃ s, τ = enc s ∧ ok (iterN body k s) kf, fun τ hτ => Classical.epsilon_spec (hmin τ hτ)⟩
  obtain ⟨μ, hμ⟩ := hμ
  refine ⟨fun τ => ∃ m s, τ = enc s ∧ ok (iterN body m s) kf, μ, ?_, ?_⟩
  · exact ⟨_, s0, h0, h⟩
  · intro τ hτ
    obtain ⟨⟨s, e, hs⟩, _⟩ := hμ τ hτ
    generalize hm : μ τ = m at hs
    cases m with
    | zero => exact (iterN_zero hs).elim
    | succ m =>
      subst e
      rw [loopK_join]
      obtain ⟨x, hx, k⟩ := iterN_succ hs
      refine hb _ s ⟨x, hx, ?_⟩
      cases x with
      | inr o => exact k
      | inl t =>
        refine ⟨⟨m, t, rfl, k⟩, ?_⟩
        have h2 := (hμ (enc t) ⟨m, t, rfl, k⟩).2
        rcases Nat.lt_or_ge m (μ (enc t)) with hlt | hge
        · exact (h2 m hlt ⟨t, rfl, k⟩).elim
        · omega
theorem jump_to {S O : Type} {body : S → Option (S ⊕ O)} {s0 : S} {kf : O → Prop} {live : List (Nat × Bool)} {l : Nat} {r : IC} {Q : Exit → St → Prop} {σ : St} (enc : S → St)
    (h0 : σ = enc s0)
    (hb : ∀ (J : St → Prop) (s : S), ok (body s) (caseS (fun t => J (enc t)) kf) → cwp P r (jmpK l live J Q) (enc s)) : ok (iter body s0) kf → jlp P l live r Q σ := by
  intro h
  have hmin : ∀ τ, (∃ m s, τ = enc s ∧ ok (iterN body m s) kf) → ∃ m, (∃ s, τ = enc s ∧ ok (iterN body m s) kf) ∧ ∀ k, k < m → ¬ ∃ s, τ = enc s ∧ ok (iterN body k s) kf := by
    rintro τ ⟨m, s, h⟩
    induction m using Nat.strongRecOn generalizing s with
    | _ m ih =>
      by_cases hk : ∃ k, k < m ∧ ∃ s, τ = enc s ∧ ok (iterN body k s) kf
      · obtain ⟨k, hk, s', h'⟩ := hk
        exact ih k hk s' h'
      · exact ⟨m, ⟨s, h⟩, fun k hk' hs => hk ⟨k, hk', hs⟩⟩
  have hμ : ∃ μ : St → Nat, ∀ τ, (∃ m s, τ = enc s ∧ ok (iterN body m s) kf) → (∃ s, τ = enc s ∧ ok (iterN body (μ τ) s) kf) ∧ ∀ k, k < μ τ → ¬ ∃ s, τ = enc s ∧ ok (iterN body k s) kf := by
    exact ⟨fun τ => Classical.epsilon fun m => (∃ s, τ = enc s ∧ ok (iterN body m s) kf) ∧ ∀ k, k < m → ¬ ∃ s, τ = enc s ∧ ok (iterN body k s) kf, fun τ hτ => Classical.epsilon_spec (hmin τ hτ)⟩
  obtain ⟨μ, hμ⟩ := hμ
  refine ⟨fun τ => ∃ m s, τ = enc s ∧ ok (iterN body m s) kf, μ, ?_, ?_⟩
  · exact ⟨_, s0, h0, h⟩
  · intro τ hτ
    obtain ⟨⟨s, e, hs⟩, _⟩ := hμ τ hτ
    generalize hm : μ τ = m at hs
    cases m with
    | zero => exact (iterN_zero hs).elim
    | succ m =>
      subst e
      obtain ⟨x, hx, k⟩ := iterN_succ hs
      refine hb _ s ⟨x, hx, ?_⟩
      cases x with
      | inr o => exact k
      | inl t =>
        refine ⟨⟨m, t, rfl, k⟩, ?_⟩
        have h2 := (hμ (enc t) ⟨m, t, rfl, k⟩).2
        rcases Nat.lt_or_ge m (μ (enc t)) with hlt | hge
        · exact (h2 m hlt ⟨t, rfl, k⟩).elim
        · omega
def bndS {X Y α : Type} (M : Option (X ⊕ Y)) (F : X → Option α) (G : Y → Option α) : Option α := match M with
  | some (.inl x) => F x
  | some (.inr y) => G y
  | none => none
@[go_sem] theorem ok_bndS {X Y α : Type} (M : Option (X ⊕ Y)) (F : X → Option α) (G : Y → Option α) (K : α → Prop) : ok (bndS M F G) K = ok M (caseS (fun x => ok (F x) K) (fun y => ok (G y) K)) := by
  cases M with
  | none => simp [bndS, ok]
  | some x => cases x <;> simp [bndS, ok, caseS]
def jnS {X Y α : Type} (M : Option (X ⊕ Y)) (F : X → Option α) (G : Y → Option α) : Option α := bndS M F G
@[go_sem] theorem ok_jnS {X Y α : Type} (M : Option (X ⊕ Y)) (F : X → Option α) (G : Y → Option α) (K : α → Prop) : ok (jnS M F G) K = okj M (caseS (fun x => ok (F x) K) (fun y => ok (G y) K)) := ok_bndS ..
theorem join_toS {X Y : Type} {M : Option (X ⊕ Y)} {kf : X → Prop} {kr : Y → Prop} {live : List (Nat × Bool)} {a b : IC} {Q : Exit → St → Prop} {σ : St} (enc : X → St)
    (ha : ∀ J : St → Prop, ok M (caseS (fun x => J (enc x)) kr) → cwp P a (joinK live J Q) σ) (hb : ∀ x, kf x → cwp P b Q (enc x)) : okj M (caseS kf kr) → cwp P (.join live a b) Q σ := fun ⟨x, h, k⟩ => by
  refine ⟨fun τ => ∃ x, τ = enc x ∧ kf x, ha _ ⟨x, h, ?_⟩, fun _ ⟨x, e, k⟩ => e ▸ hb x k⟩
  cases x with
  | inl x => exact ⟨x, rfl, k⟩
  | inr y => exact k
def appO {α : Type} : Option (List α) → Option (List α) → Option (List α)
  | some a, some b => some (a ++ b)
  | _, _ => none
@[go_sem] theorem appO_some {α : Type} (a b : List α) : appO (some a) (some b) = some (a ++ b) := rfl
@[go_sem] theorem byteOf_u8 (c : UInt8) : byteOf (.int .u8 c.toNat) = some c := by
  unfold byteOf
  have := c.toNat_lt
  simp only [Int.natCast_nonneg, true_and, Int.toNat_natCast]
  rw [if_pos (by omega)]
  simp
@[go_sem] theorem bytesOf_nil : bytesOf [] = some [] := rfl
@[go_sem] theorem bytesOf_cons (a : AV) (l : List AV) : bytesOf (a :: l) = consO (byteOf a) (bytesOf l) := rfl
@[go_sem] theorem bytesOf_append (a : List AV) : ∀ b, bytesOf (a ++ b) = appO (bytesOf a) (bytesOf b) := by
  induction a with
  | nil => intro b; cases h : bytesOf b <;> simp [bytesOf, appO, h]
  | cons x a ih =>
    intro b
    rw [List.cons_append, bytesOf_cons, bytesOf_cons, ih b]
    cases byteOf x <;> cases bytesOf a <;> cases bytesOf b <;> rfl
@[go_sem] theorem bytesOf_flat : ∀ l : List UInt8, bytesOf (flat l) = some l
  | [] => rfl
  | c :: l => by
    rw [flat_cons]
    show consO (byteOf (.int .u8 c.toNat)) (bytesOf (flat l)) = _
    rw [byteOf_u8, bytesOf_flat l]; rfl
@[go_sem] theorem map_flat (l : List UInt8) : (l.map fun c => AV.int .u8 c.toNat) = flat l := by
  induction l with
  | nil => rfl
  | cons a l ih => rw [List.map_cons, ih]; rfl
def w64 (n : Int) : Int := IntKind.i64.wrap n
def u8w (n : Int) : UInt8 := UInt8.ofNat (IntKind.u8.wrap n).toNat
def u32w (n : Int) : UInt32 := UInt32.ofNat (IntKind.u32.wrap n).toNat
def u64w (n : Int) : UInt64 := UInt64.ofNat (IntKind.u64.wrap n).toNat
@[go_sem] theorem wrap_w64 (n : Int) : wrapI .i64 n = w64 n := rfl
theorem wrapU (k : IntKind) (n : Int) (hk : k.signed = false) : k.wrap n = n % (2 ^ k.bits : Int) := by
  unfold IntKind.wrap
  simp [hk]
@[go_sem] theorem wrap_u8 (n : Int) : wrapI .u8 n = (u8w n).toNat := by
  show IntKind.u8.wrap n = ((UInt8.ofNat (IntKind.u8.wrap n).toNat).toNat : Int)
  rw [wrapU _ _ rfl, UInt8.toNat_ofNat']
  have : (2 ^ IntKind.u8.bits : Int) = 256 := by decide
  rw [this]
  omega
@[go_sem] theorem wrap_u32 (n : Int) : wrapI .u32 n = (u32w n).toNat := by
  show IntKind.u32.wrap n = ((UInt32.ofNat (IntKind.u32.wrap n).toNat).toNat : Int)
  rw [wrapU _ _ rfl, UInt32.toNat_ofNat']
  have : (2 ^ IntKind.u32.bits : Int) = 4294967296 := by decide
  rw [this]
  omega
@[go_sem] theorem wrap_u64 (n : Int) : wrapI .u64 n = (u64w n).toNat := by
  show IntKind.u64.wrap n = ((UInt64.ofNat (IntKind.u64.wrap n).toNat).toNat : Int)
  rw [wrapU _ _ rfl, UInt64.toNat_ofNat']
  have : (2 ^ IntKind.u64.bits : Int) = 18446744073709551616 := by decide
  rw [this]
  omega
def shlI (k : IntKind) (a b : Int) : Int := a * 2 ^ (min b.toNat k.bits)
def shrI (k : IntKind) (a b : Int) : Int := a.fdiv (2 ^ (min b.toNat k.bits))
def andI (k : IntKind) (a b : Int) : Int := (BitVec.ofInt k.bits a &&& BitVec.ofInt k.bits b).toNat
def orI (k : IntKind) (a b : Int) : Int := (BitVec.ofInt k.bits a ||| BitVec.ofInt k.bits b).toNat
def xorI (k : IntKind) (a b : Int) : Int := (BitVec.ofInt k.bits a ^^^ BitVec.ofInt k.bits b).toNat
def andNotI (k : IntKind) (a b : Int) : Int := (BitVec.ofInt k.bits a &&& ~~~BitVec.ofInt k.bits b).toNat
theorem shl_eq (k : IntKind) (a b : Int) : a * 2 ^ (min b.toNat k.bits) = shlI k a b := rfl
@[go_sem] theorem binI_shl (k k' : IntKind) (a b : Int) : binI .shl k k' a b = .prt (0 ≤ b) (.int k (wrapI k (shlI k a b))) := rfl
@[go_sem] theorem binI_shr (k k' : IntKind) (a b : Int) : binI .shr k k' a b = .prt (0 ≤ b) (.int k (shrI k a b)) := rfl
@[go_sem] theorem binI_and (k k' : IntKind) (a b : Int) : binI .and k k' a b = kk k k' (.tot (.int k (wrapI k (andI k a b)))) := rfl
@[go_sem] theorem binI_or (k k' : IntKind) (a b : Int) : binI .or k k' a b = kk k k' (.tot (.int k (wrapI k (orI k a b)))) := rfl
@[go_sem] theorem binI_xor (k k' : IntKind) (a b : Int) : binI .xor k k' a b = kk k k' (.tot (.int k (wrapI k (xorI k a b)))) := rfl
@[go_sem] theorem binI_andNot (k k' : IntKind) (a b : Int) : binI .andNot k k' a b = kk k k' (.tot (.int k (wrapI k (andNotI k a b)))) := rfl
@[go_sem] theorem lit_nonneg (n : Nat) : ((0 : Int) ≤ @OfNat.ofNat Int n instOfNat) = True := eq_true (Int.natCast_nonneg n)
@[go_sem] theorem lit_ne (n : Nat) : ((@OfNat.ofNat Int (n + 1) instOfNat) ≠ 0) = True := eq_true (by show ((n + 1 : Nat) : Int) ≠ 0; omega)
@[go_sem] theorem getD_ix (l : List UInt8) (k : Int) : l.getD k.toNat 0 = ix l k := rfl
@[go_sem] theorem part_of (l : List UInt8) (lo hi : Int) : (l.drop lo.toNat).take (hi - lo).toNat = part l lo hi := rfl
attribute [go_sem] List.length_append true_or or_true eq_self_iff_true imp_self Bool.cond_true_left Bool.cond_false_right and_self and_true
def mv (d x : Nat) : IOper := ⟨some d, .mov false (.t x), none⟩
def mt (d x : Nat) : IOper := ⟨some d, .mov true (.t x), none⟩
def mvg (d x t : Nat) (w : Bool) : IOper := ⟨some d, .mov false (.t x), some (t, w)⟩
def mtg (d x t : Nat) (w : Bool) : IOper := ⟨some d, .mov true (.t x), some (t, w)⟩
def i1 (d : Nat) (o : IOp) : IOper := ⟨some d, o, none⟩
def i1g (d t : Nat) (w : Bool) (o : IOp) : IOper := ⟨some d, o, some (t, w)⟩
def i0 (o : IOp) : IOper := ⟨none, o, none⟩
def i0g (t : Nat) (w : Bool) (o : IOp) : IOper := ⟨none, o, some (t, w)⟩
attribute [go_sem] mv mt mvg mtg i1 i1g i0 i0g
@[go_sem] theorem sub_cons (a : AV) (l : List AV) (off n : Nat) : AB.sub (a :: l) off n = ((a :: l).drop off).take n := rfl
attribute [go_sem] flat_part flat_div
@[go_sem] theorem lpReg_when (σ : St) (b : Bool) (a : AV) (d : Option Nat) : lpReg σ (.when b a) d = lpReg σ a d := by
  rw [lpReg]
end Go.AB
end

section
namespace Go.AB
open Go
def SubS (t s : Store) : Prop := ∀ b o, t b = some o → s b = some o
theorem SubS.refl (s : Store) : SubS s s := fun _ _ h => h
theorem SubS.trans {a b c : Store} (h : SubS a b) (k : SubS b c) : SubS a c := fun x o hx => k x o (h x o hx)
theorem SubS.set {t s : Store} {b : Nat} {o : SO} (h : SubS t s) (hb : t b = none) : SubS t (s.set b o) := fun c p hc => by
  unfold Store.set
  by_cases hcb : c = b
  · subst hcb; rw [hb] at hc; cases hc
  · rw [if_neg hcb]; exact h c p hc
theorem SubS.mono {t s : Store} {b : Nat} {o : SO} (h : SubS t s) : SubS (t.set b o) (s.set b o) := fun c p hc => by
  unfold Store.set at hc ⊢
  by_cases hcb : c = b
  · rw [if_pos hcb] at hc ⊢; exact hc
  · rw [if_neg hcb] at hc ⊢; exact h c p hc
variable {P : Program}
theorem FN.forget {f : FuncId} {args : List AV} {s : Store} {Q : List AV → Store → Prop} (h : FN P f args s fun rs t => ∃ t', SubS t' t ∧ Q rs t') : FN P f args s Q := by
  intro G w vs h1 h2 h3 h4
  refine (h G w vs h1 h2 h3 h4).mono fun e w' ⟨v, rs, s', G', a1, ⟨t', ht, hq⟩, a3, a4, a5⟩ => ⟨v, rs, t', G', a1, hq, a3, fun b o hb => a4 b o (ht b o hb), a5⟩
theorem set_same (s : Store) (b : Nat) (o : SO) : (s.set b o) b = some o := by simp [Store.set]
theorem set_ne {s : Store} {b c : Nat} {o : SO} (h : c ≠ b) : (s.set b o) c = s c := by simp [Store.set, h]
theorem set_set (s : Store) (b : Nat) (o p : SO) : (s.set b o).set b p = s.set b p := by
  funext c; unfold Store.set; by_cases h : c = b <;> simp [h]
theorem set_comm {a b : Nat} (h : a ≠ b) {s : Store} {o p : SO} : (s.set b p).set a o = (s.set a o).set b p := by
  funext c; unfold Store.set
  by_cases ha : c = a
  · subst ha; simp [h]
  · simp [ha]
theorem set_eq {s : Store} {b : Nat} {o : SO} (h : s b = some o) : s = s.set b o := by
  funext c; unfold Store.set
  by_cases hc : c = b
  · subst hc; simp [h]
  · simp [hc]
theorem set_eq' {s : Store} {b : Nat} {o : SO} (h : s b = some o) : s.set b o = s := (set_eq h).symm
theorem set_none (s : Store) (b c : Nat) (o : SO) : ((s.set b o) c = none) = (c ≠ b ∧ s c = none) := by
  unfold Store.set
  by_cases hc : c = b <;> simp [hc]
theorem ne_of_none {s : Store} {b c : Nat} {o : SO} (h : s b = some o) (hc : s c = none) : c ≠ b := fun e => by subst e; rw [h] at hc; cases hc
attribute [go_sem] set_same set_set
theorem ok_mono {α : Type} {o : Option α} {K K' : α → Prop} (h : ok o K) (hk : ∀ r, K r → K' r) : ok o K' := h.imp fun r ⟨h1, h2⟩ => ⟨h1, hk r h2⟩
section
variable (Q : Exit → St → Prop) (σ τ : St)
@[go_sem] theorem cwp_scope (b : IC) : cwp P (.scope b) Q σ = cwp P b (scopeK Q) σ := by
  have : (fun x τ => match x with | .goto _ => False | x => Q x τ) = scopeK Q := by
    funext e τ; cases e <;> rfl
  show cwp P b (fun x τ => match x with | .goto _ => False | x => Q x τ) σ = _
  rw [this]
@[go_sem] theorem scopeK_normal : scopeK Q .normal τ = Q .normal τ := rfl
@[go_sem] theorem scopeK_ret : scopeK Q .ret τ = Q .ret τ := rfl
@[go_sem] theorem scopeK_exit (i : Nat) : scopeK Q (.exit i) τ = Q (.exit i) τ := rfl
end
def aindexN (sz len n : Nat) (x : IX) : AV → PR
  | .lp d o => .prt (n + 1 ≤ len) (.lp d (o + n * sz))
  | .sp cs => bif decide (len * sz ≤ cs.length) then .prt (n + 1 ≤ len) (.sp (cs.drop (n * sz))) else .no
  | .ref b o => .prt (n + 1 ≤ len) (.ref b (o + n * sz))
  | .loc _ => locA (n + 1 ≤ len) (n * sz) x
  | _ => .no
theorem aindex_nat (sz len n : Nat) (x : IX) (k : IntKind) (av : AV) : aindexAddrV sz len x av (.int k (n : Int)) = aindexN sz len n x av := by
  have h : (0 ≤ (n : Int) ∧ (n : Int) < (len : Int)) = (n + 1 ≤ len) := by
    apply propext; constructor <;> intro h <;> omega
  cases av <;> first | rfl | simp only [aindexAddrV, aindexN, h, Int.toNat_natCast]
@[go_sem] theorem aindex_lit (sz len n : Nat) (x : IX) (k : IntKind) (av : AV) : aindexAddrV sz len x av (.int k (no_index (OfNat.ofNat n))) = aindexN sz len n x av := aindex_nat sz len n x k av
attribute [go_sem] aindexN.eq_1 aindexN.eq_2 aindexN.eq_3 aindexN.eq_4
structure MSl (α : Type) where
  n : Nat
  l : List α
def updL {α : Type} (l : List α) (i : Int) (x : α) : List α := l.take i.toNat ++ [x] ++ l.drop (i.toNat + 1)
theorem flat_upd {α : Type} [Enc α] (l : List α) (i : Int) (x : α) (n : Nat) (hn : n = Enc.w α) : setAt (flat l) (i.toNat * n) (Enc.cells x) = flat (updL l i x) := by
  subst hn
  unfold setAt updL
  rw [flat_append, flat_append, flat_cons, flat_nil, List.append_nil, flat_take, Enc.len]
  congr 1
  rw [show i.toNat * Enc.w α + Enc.w α = (i.toNat + 1) * Enc.w α from by rw [Nat.add_mul, Nat.one_mul], flat_drop]
@[go_sem] theorem upd_int (l : List Int) (i x : Int) : setAt (flat l) (i.toNat * 1) [.int .i64 x] = flat (updL l i x) := flat_upd l i x 1 rfl
@[go_sem] theorem upd_u8 (l : List UInt8) (i : Int) (x : UInt8) : setAt (flat l) (i.toNat * 1) [.int .u8 x.toNat] = flat (updL l i x) := flat_upd l i x 1 rfl
@[go_sem] theorem upd_u32 (l : List UInt32) (i : Int) (x : UInt32) : setAt (flat l) (i.toNat * 1) [.int .u32 x.toNat] = flat (updL l i x) := flat_upd l i x 1 rfl
@[go_sem] theorem upd_bool (l : List Bool) (i : Int) (x : Bool) : setAt (flat l) (i.toNat * 1) [.bool x] = flat (updL l i x) := flat_upd l i x 1 rfl
@[go_sem] theorem setAt_cons (a : AV) (l : List AV) (off : Nat) (news : List AV) : setAt (a :: l) off news = (a :: l).take off ++ news ++ (a :: l).drop (off + news.length) := rfl
@[go_sem] theorem pad_cons (z : List AV) (a : AV) (l : List AV) : pad z (a :: l) = bif (a :: l).length == z.length then a :: l else z := rfl
@[go_sem] theorem rep_flat {α : Type} [Enc α] (n : Nat) (z : α) : (List.replicate n (Enc.cells z)).flatten = flat (List.replicate n z) := by simp [flat]
section
variable {d d' : Option Nat} {K : St → Prop} {σ : St} {b off : Nat} {news old : List AV}
@[go_sem] theorem stK_wrS : stK d K (wrS σ b (wrCells off news old)) = (off + news.length ≤ old.length ∧ K (({ σ with s := σ.s.set b (.cells (setAt old off news)) } : St).put d (.tup []))) := by
  unfold wrCells
  by_cases h : off + news.length ≤ old.length
  · simp [h, wrS, stK]
  · simp [h, wrS, stK]
@[go_sem] theorem stK_wrL {i : Nat} : stK d K (wrL σ i (wrCells off news old)) = (off + news.length ≤ old.length ∧ K ((σ.put (some i) (.loc (setAt old off news))).put d (.tup []))) := by
  unfold wrCells
  by_cases h : off + news.length ≤ old.length
  · simp [h, wrL, stK]
  · simp [h, wrL, stK]
end
theorem u8_inj (a b : UInt8) : ((a.toNat : Int) = (b.toNat : Int)) = (a = b) := by
  rw [Int.natCast_inj, UInt8.toNat_inj]
@[go_sem] theorem natCast_lit (n : Nat) : (((no_index (OfNat.ofNat n)) : Nat) : Int) = OfNat.ofNat n := rfl
@[go_sem] theorem u8_zero : ((UInt8.toNat 0 : Nat) : Int) = 0 := rfl
@[go_sem] theorem u8_one : ((UInt8.toNat 1 : Nat) : Int) = 1 := rfl
def mfind {κ ν : Type} [BEq κ] (m : List (κ × ν)) (k : κ) : Option ν := match m with
  | [] => none
  | x :: r => bif k == x.1 then some x.2 else mfind r k
def mget {κ ν : Type} [BEq κ] (z : ν) (m : List (κ × ν)) (k : κ) : ν := (mfind m k).getD z
def mhas {κ ν : Type} [BEq κ] (m : List (κ × ν)) (k : κ) : Bool := (mfind m k).isSome
def mput {κ ν : Type} [BEq κ] (m : List (κ × ν)) (k : κ) (v : ν) : List (κ × ν) := match m with
  | [] => [(k, v)]
  | x :: r => bif k == x.1 then (k, v) :: r else x :: mput r k v
def encM {κ ν : Type} (ek : κ → AV) (ev : ν → AV) (m : List (κ × ν)) : List (AV × AV) := m.map fun p => (ek p.1, ev p.2)
theorem keysOK_enc {κ ν : Type} {ek : κ → AV} {ev : ν → AV} {kk : KeyK} (h : ∀ a, keyOK kk (ek a) = true) (m : List (κ × ν)) : keysOK kk (encM ek ev m) = true := by
  unfold keysOK encM
  simp [h]
section
variable {κ ν : Type} [BEq κ] {ek : κ → AV} {ev : ν → AV}
theorem findK_enc (hk : ∀ a b, keyIs (ek a) (ek b) = (a == b)) (m : List (κ × ν)) (k : κ) : findK (ek k) (encM ek ev m) = (mfind m k).map ev := by
  induction m with
  | nil => rfl
  | cons x m ih =>
    show (bif keyIs (ek k) (ek x.1) then some (ev x.2) else findK (ek k) (encM ek ev m)) = _
    rw [hk, ih]
    show _ = (bif k == x.1 then some x.2 else mfind m k).map ev
    cases k == x.1 <;> rfl
theorem putK_enc (hk : ∀ a b, keyIs (ek a) (ek b) = (a == b)) (m : List (κ × ν)) (k : κ) (v : ν) : putK (ek k) (ev v) (encM ek ev m) = encM ek ev (mput m k v) := by
  induction m with
  | nil => rfl
  | cons x m ih =>
    show (bif keyIs (ek k) (ek x.1) then (ek k, ev v) :: encM ek ev m else (ek x.1, ev x.2) :: putK (ek k) (ev v) (encM ek ev m)) = _
    rw [hk, ih]
    show _ = encM ek ev (bif k == x.1 then (k, v) :: m else x :: mput m k v)
    cases k == x.1 <;> rfl
theorem lookupO_enc {kk : KeyK} {z : ν} {za : AV} (h : ∀ a, keyOK kk (ek a) = true) (hk : ∀ a b, keyIs (ek a) (ek b) = (a == b)) (hz : view za = ev z) (hv : ∀ a, view (ev a) = ev a) (hi : ∀ a, isV (ev a) = true) (ok : Bool) (m : List (κ × ν)) (k : κ) :
    lookupO kk za ok (ek k) (some (.map (encM ek ev m))) = .prt True (okV ok (ev (mget z m k)) (mhas m k)) := by
  show ckL ok (keyOK kk (ek k) = true ∧ keysOK kk (encM ek ev m) = true) (lookV za ok (findK (ek k) (encM ek ev m))) = _
  rw [findK_enc hk, h, keysOK_enc h]
  unfold mget mhas
  cases mfind m k with
  | none =>
    show ckL ok _ (okV ok (view za) false) = _
    rw [hz]
    cases ok <;> simp [ckL, plainL, okV, hi]
  | some v =>
    show ckL ok _ (okV ok (view (ev v)) true) = _
    rw [hv]
    cases ok <;> simp [ckL, plainL, okV, hi]
theorem updO_enc {kk : KeyK} {b : Nat} {σ : St} {d : Option Nat} {K : St → Prop} (h : ∀ a, keyOK kk (ek a) = true) (hk : ∀ a b, keyIs (ek a) (ek b) = (a == b)) (hkv : ∀ a, view (ek a) = ek a) (m : List (κ × ν)) (k : κ) (v : ν) (hv : view (ev v) = ev v) (hi : isV (ev v) = true) :
    updO kk b σ (ek k) (ev v) d K (some (.map (encM ek ev m))) = K ({ σ with s := σ.s.set b (.map (encM ek ev (mput m k v))) }.put d (.tup [])) := by
  show ((isV (ev v) = true ∧ keyOK kk (ek k) = true ∧ keysOK kk (encM ek ev m) = true) ∧ K ({ σ with s := σ.s.set b (.map (putK (view (ek k)) (view (ev v)) (encM ek ev m))) }.put d (.tup []))) = _
  rw [hkv, hv, putK_enc hk, h, keysOK_enc h, hi]
  simp
end
theorem keyIs_int (a b : Int) : keyIs (.int .i64 a) (.int .i64 b) = (a == b) := by simp [keyIs, cellsOf, keyEqs, keyEq]
theorem keyIs_str (a b : Str) : keyIs (.str a.b) (.str b.b) = (a == b) := by
  rw [Bool.eq_iff_iff]
  simp only [keyIs, cellsOf, keyEqs, keyEq, Bool.and_true, beq_iff_eq]
  cases a; cases b; simp
attribute [go_sem] mapUpdW.eq_1
@[go_sem] theorem encM_len {κ ν : Type} (ek : κ → AV) (ev : ν → AV) (m : List (κ × ν)) : (encM ek ev m).length = m.length := by simp [encM]
theorem encM_nil {κ ν : Type} (ek : κ → AV) (ev : ν → AV) : encM ek ev [] = [] := rfl
@[go_sem] theorem rep_int (n : Nat) : (List.replicate n [AV.int .i64 0]).flatten = flat (List.replicate n (0 : Int)) := rep_flat n (0 : Int)
@[go_sem] theorem rep_u8 (n : Nat) : (List.replicate n [AV.int .u8 0]).flatten = flat (List.replicate n (0 : UInt8)) := rep_flat n (0 : UInt8)
@[go_sem] theorem rep_u32 (n : Nat) : (List.replicate n [AV.int .u32 0]).flatten = flat (List.replicate n (0 : UInt32)) := rep_flat n (0 : UInt32)
@[go_sem] theorem rep_bool (n : Nat) : (List.replicate n [AV.bool false]).flatten = flat (List.replicate n false) := rep_flat n false
end Go.AB
end

section
namespace Go.AB
open Go
theorem mix : Go.Proofs.Tryz.prog.follows .mixedOrders = true := by kernel_rfl
end Go.AB
end

section
namespace Go.AB
open Go
theorem iterN_inv {S O : Type} {body : S → Option (S ⊕ O)} (I : S → Prop) (μ : S → Nat) (Post : O → Prop)
    (step : ∀ s, I s → ∃ x, body s = some x ∧ (match x with | .inl t => I t ∧ μ t < μ s | .inr o => Post o)) : ∀ (n : Nat) (s : S), I s → μ s < n → ∃ o, iterN body n s = some o ∧ Post o
  | 0, _, _, h => absurd h (Nat.not_lt_zero _)
  | n + 1, s, hi, hn => by
    obtain ⟨x, hx, h⟩ := step s hi
    cases x with
    | inl t =>
      obtain ⟨o, h1, h2⟩ := iterN_inv I μ Post step n t h.1 (by have := h.2; omega)
      exact ⟨o, by unfold iterN; rw [hx]; exact h1, h2⟩
    | inr o => exact ⟨o, by unfold iterN; rw [hx], h⟩
theorem iter_inv {S O : Type} {body : S → Option (S ⊕ O)} {s0 : S} (I : S → Prop) (μ : S → Nat) (Post : O → Prop) (h0 : I s0) (hμ : μ s0 < 18446744073709551616)
    (step : ∀ s, I s → ∃ x, body s = some x ∧ (match x with | .inl t => I t ∧ μ t < μ s | .inr o => Post o)) : ∃ o, iter body s0 = some o ∧ Post o :=
  iterN_inv I μ Post step _ s0 h0 hμ
theorem iter_eq {S O : Type} {body : S → Option (S ⊕ O)} {s0 : S} {o : O} (I : S → Prop) (μ : S → Nat) (h0 : I s0) (hμ : μ s0 < 18446744073709551616)
    (step : ∀ s, I s → (∃ t, body s = some (.inl t) ∧ I t ∧ μ t < μ s) ∨ body s = some (.inr o)) : iter body s0 = some o := by
  obtain ⟨p, h1, h2⟩ := iter_inv I μ (fun p => p = o) h0 hμ fun s hs => by
    rcases step s hs with ⟨t, h1, h2⟩ | h1
    · exact ⟨_, h1, h2⟩
    · exact ⟨_, h1, rfl⟩
  rw [h1, h2]
theorem w64_id {n : Int} (h1 : -9223372036854775808 ≤ n) (h2 : n ≤ 9223372036854775807) : w64 n = n := by
  unfold w64 IntKind.wrap
  have : (2 ^ IntKind.i64.bits : Int) = 18446744073709551616 := by decide
  have h3 : (2 ^ (IntKind.i64.bits - 1) : Int) = 9223372036854775808 := by decide
  rw [this, h3]
  simp only [IntKind.signed, Bool.true_and, decide_eq_true_eq]
  split <;> omega
@[simp] theorem bnd_some {α β : Type} (a : α) (f : α → Option β) : bnd (some a) f = f a := rfl
@[simp] theorem bnd_none {α β : Type} (f : α → Option β) : bnd none f = none := rfl
@[simp] theorem jn_some {α β : Type} (a : α) (f : α → Option β) : jn (some a) f = f a := rfl
@[simp] theorem jn_none {α β : Type} (f : α → Option β) : jn none f = none := rfl
@[simp] theorem bndS_l {X Y α : Type} (x : X) (F : X → Option α) (G : Y → Option α) : bndS (some (.inl x)) F G = F x := rfl
@[simp] theorem bndS_r {X Y α : Type} (y : Y) (F : X → Option α) (G : Y → Option α) : bndS (some (.inr y)) F G = G y := rfl
@[simp] theorem jnS_l {X Y α : Type} (x : X) (F : X → Option α) (G : Y → Option α) : jnS (some (.inl x)) F G = F x := rfl
@[simp] theorem jnS_r {X Y α : Type} (y : Y) (F : X → Option α) (G : Y → Option α) : jnS (some (.inr y)) F G = G y := rfl
@[simp] theorem jn_id {α : Type} (o : Option α) : jn o (fun a => some a) = o := by cases o <;> rfl
@[simp] theorem bnd_id {α : Type} (o : Option α) : bnd o (fun a => some a) = o := by cases o <;> rfl
theorem need_pos {α : Type} {c : Prop} [Decidable c] (h : c) (o : Option α) : need c o = o := if_pos h
@[simp] theorem need_true {α : Type} [Decidable True] (o : Option α) : need True o = o := if_pos trivial
@[simp] theorem whenB_t {α : Type} (z : α) (o : Option α) : whenB true z o = o := rfl
@[simp] theorem whenB_f {α : Type} (z : α) (o : Option α) : whenB false z o = some z := rfl
@[simp] theorem caseS_l' {A B C : Type} (f : A → C) (g : B → C) (a : A) : caseS f g (.inl a) = f a := rfl
@[simp] theorem caseS_r' {A B C : Type} (f : A → C) (g : B → C) (b : B) : caseS f g (.inr b) = g b := rfl
theorem ix_at {α : Type} [Enc α] {l : List α} {i : Int} (h : i.toNat < l.length) : ix l i = l[i.toNat] := by
  unfold ix; rw [List.getD_eq_getElem?_getD, List.getElem?_eq_getElem h]; rfl
theorem ix_nat {α : Type} [Enc α] {l : List α} {k : Nat} (h : k < l.length) : ix l (k : Int) = l[k] := by
  rw [ix_at (by simpa using h)]; simp
theorem ix_get {α : Type} [Enc α] {l : List α} {k : Nat} {a : α} (h : l[k]? = some a) : ix l (k : Int) = a := by
  unfold ix; rw [List.getD_eq_getElem?_getD]; simp [h]
end Go.AB
end

section
set_option maxRecDepth 4000
namespace Go.AB
open Go
open Go.RowKit
theorem strArgs2 {w : World} {R : Nat → Nat} {a b : AV} {vs : Array Value} (h : ArgsR w R [a, b] vs) : ∃ v0 v1, vs = #[v0, v1] ∧ VR w R a v0 ∧ VR w R b v1 := by
  obtain ⟨hl, hr⟩ := h
  obtain ⟨l⟩ := vs
  match l, hl with
  | [v0, v1], _ => exact ⟨v0, v1, rfl, hr 0 _ _ rfl rfl, hr 1 _ _ rfl rfl⟩
  | [], hl => simp at hl
  | [_], hl => simp at hl
  | _ :: _ :: _ :: _, hl => simp at hl
theorem strArgs1 {w : World} {R : Nat → Nat} {a : AV} {vs : Array Value} (h : ArgsR w R [a] vs) : ∃ v0, vs = #[v0] ∧ VR w R a v0 := by
  obtain ⟨hl, hr⟩ := h
  obtain ⟨l⟩ := vs
  match l, hl with
  | [v0], _ => exact ⟨v0, rfl, hr 0 _ _ rfl rfl⟩
  | [], hl => simp at hl
  | _ :: _ :: _, hl => simp at hl
theorem indexByte_calls (a : ByteArray) (c : Int) (w : World) : Calls Go.Proofs.Tryz.prog 224 #[.string a, .int .u8 c] w fun e w' => e = .returned (.int .i64 (Lib.indexByte a.data.toList c.toNat.toUInt8)) ∧ w' = w := by
  have mixed := mix
  have t3 : Go.Proofs.Tryz.prog.underlying 3 = some (.int .i64) := by kernel_rfl
  have u3 := run_underlying t3
  go_enter Go.Proofs.Tryz.func224, (show Go.Proofs.Tryz.f224.ntmps = 8 from rfl)
  go_wp2
  rw [run_callFunc_extern Go.Proofs.Tryz.func254 (by kernel_rfl) (by kernel_rfl) (by kernel_rfl) (e := Extern.BytealgIndexByte.indexByte) (by kernel_rfl), Lib.run_indexByteString]
  simp only [Result.andThen]
  rw [Oper.upon_value]
  go_wp2
  go_ret
  exact ⟨rfl, rfl⟩
def stringslite_IndexByte (s : Str) (c : UInt8) : Option Int := some (Lib.indexByte s.b c)
theorem stringslite_IndexByte_fn {a : Str} {c : UInt8} {s : Store} {Q : List AV → Store → Prop} (h : ok (stringslite_IndexByte a c) fun r => Q [.int .i64 r] s) : FN Go.Proofs.Tryz.prog 224 [.str a.b, .int .u8 c.toNat] s Q := by
  unfold stringslite_IndexByte at h
  rw [ok_some] at h
  intro G w vs h1 h2 h3 h4
  obtain ⟨v0, v1, rfl, k0, k1⟩ := strArgs2 h4
  rw [VR.inv_str k0, VR.inv_int k1]
  refine (indexByte_calls _ _ w).mono fun e w' ⟨he, hw⟩ => ?_
  subst hw
  refine ⟨_, _, s, G, he, h, h1, h3, ⟨?_, trivial⟩, Pres.refl G w'⟩
  have e : ((c.toNat : Int).toNat).toUInt8 = c := by simp
  rw [e]
  exact .int _ _
theorem stringslite_IndexByte_fe {a : Str} {c : UInt8} {s : Store} {r : Int} (h : stringslite_IndexByte a c = some r) : FE Go.Proofs.Tryz.prog 224 [.str a.b, .int .u8 c.toNat] s [.int .i64 r] s := stringslite_IndexByte_fn ⟨r, h, rfl, rfl⟩
theorem index1_calls (a : ByteArray) (c : UInt8) (w : World) : Calls Go.Proofs.Tryz.prog 364 #[.string a, .string ⟨#[c]⟩] w fun e w' => e = .returned (.int .i64 (Lib.indexByte a.data.toList c)) ∧ w' = w := by
  have mixed := mix
  have t3 : Go.Proofs.Tryz.prog.underlying 3 = some (.int .i64) := by kernel_rfl
  have u3 := run_underlying t3
  have t9 : Go.Proofs.Tryz.prog.underlying 9 = some .string := by kernel_rfl
  have u9 := run_underlying t9
  go_enter Go.Proofs.Tryz.func364, (show Go.Proofs.Tryz.f364.ntmps = 143 from rfl)
  go_wp2
  · rename_i hc
    go_ret
    refine ⟨?_, rfl⟩
    have e : a.toList = [c] := (eq_of_beq hc).symm
    have e2 : a.data.toList = [c] := by
      obtain ⟨⟨l⟩⟩ := a
      simpa using e
    rw [e2]
    simp [Lib.indexByte]
  · rw [run_callFunc_extern Go.Proofs.Tryz.func254 (by kernel_rfl) (by kernel_rfl) (by kernel_rfl) (e := Extern.BytealgIndexByte.indexByte) (by kernel_rfl), Lib.run_indexByteString]
    simp only [Result.andThen]
    rw [Oper.upon_value]
    go_wp2
    go_ret
    exact ⟨rfl, rfl⟩
def stringslite_Index (s sub : Str) : Option Int := need (sub.b.length = 1) (some (Lib.indexByte s.b (ix sub.b 0)))
theorem stringslite_Index_fn {a b : Str} {s : Store} {Q : List AV → Store → Prop} (h : ok (stringslite_Index a b) fun r => Q [.int .i64 r] s) : FN Go.Proofs.Tryz.prog 364 [.str a.b, .str b.b] s Q := by
  unfold stringslite_Index at h
  rw [ok_need, ok_some] at h
  obtain ⟨hl, h⟩ := h
  obtain ⟨c, hc⟩ : ∃ c, b.b = [c] := List.length_eq_one_iff.1 hl
  rw [hc] at h ⊢
  intro G w vs h1 h2 h3 h4
  obtain ⟨v0, v1, rfl, k0, k1⟩ := strArgs2 h4
  rw [VR.inv_str k0, VR.inv_str k1]
  refine (index1_calls _ c w).mono fun e w' ⟨he, hw⟩ => ?_
  subst hw
  exact ⟨_, _, s, G, he, h, h1, h3, ⟨.int _ _, trivial⟩, Pres.refl G w'⟩
theorem stringslite_Index_fe {a b : Str} {s : Store} {r : Int} (h : stringslite_Index a b = some r) : FE Go.Proofs.Tryz.prog 364 [.str a.b, .str b.b] s [.int .i64 r] s := stringslite_Index_fn ⟨r, h, rfl, rfl⟩
def isDig (c : UInt8) : Bool := decide (48 ≤ c.toNat) && decide (c.toNat ≤ 57)
theorem iter_pres {G : Gh} {w : World} {s : ByteArray} {pos : Nat} (h : GoodW G w) : GoodW (G.upd w.heap.size .none 0) (w.iter s pos) ∧ Pres G w (G.upd w.heap.size .none 0) (w.iter s pos) ∧ (∀ {st : Store}, StoreR G w st → StoreR (G.upd w.heap.size .none 0) (w.iter s pos) st) := by
  obtain ⟨q1, q2, q3⟩ := alloc_facts h (.stringIter s pos) .none 0
  refine ⟨q1, q2, fun hs => hs.mono h q2 (fun b hb => ?_) (fun b c j _ hc => ?_)⟩
  · obtain ⟨k1, k2, k3⟩ := q3 b (by rw [hb]; simp)
    exact ⟨k1.trans hb, k2, k3⟩
  · obtain ⟨k1, k2, k3⟩ := q3 c (by rw [hc]; simp)
    exact ⟨k1.trans hc, k2, k3⟩
theorem drop_at (s : ByteArray) (pos : Nat) (h : pos < s.size) : s.data.toList.drop pos = (s[pos]'h) :: s.data.toList.drop (pos + 1) := by
  have hl : pos < s.data.toList.length := by simpa using h
  rw [List.drop_eq_getElem_cons hl]
  rfl
theorem width_pos (s : ByteArray) (pos : Nat) (h : pos < s.size) : 1 ≤ (Utf8.decode s pos).2 := by
  by_cases ha : (s[pos]'h).toNat < 128
  · rw [decode_ascii s pos h ha]
    exact Nat.le_refl _
  · exact (decode_high s pos h (by omega)).2
theorem all_calls (s : ByteArray) (w : World) {r : Bool} (hr : s.data.toList.all isDig = r) : Calls Go.Proofs.Tryz.prog 328 #[.string s] w fun e w' => e = .returned (.bool r) ∧ ∃ pos, w' = w.iter s pos := by
  have mixed := mix
  have t3 : Go.Proofs.Tryz.prog.underlying 3 = some (.int .i64) := by kernel_rfl
  have u3 := run_underlying t3
  have t9 : Go.Proofs.Tryz.prog.underlying 9 = some .string := by kernel_rfl
  have u9 := run_underlying t9
  go_enter Go.Proofs.Tryz.func328, (show Go.Proofs.Tryz.f328.ntmps = 13 from rfl)
  go_wp2
  go_loopw [] (fun w' => ∃ pos, w' = w.iter s pos ∧ (s.data.toList.drop pos).all isDig = r) (fun w' => s.size - w'.iterPos w.heap.size)
  case atStart => exact ⟨0, rfl, hr⟩
  case round =>
    obtain ⟨pos, rfl, hall⟩ := hrel
    by_cases hp : pos < s.size
    · rw [drop_at s pos hp, List.all_cons] at hall
      by_cases ha : (s[pos]'hp).toNat < 128
      · have hnx : ∀ ty, (Instr.next (.pointer (some ⟨w.heap.size, 0, none⟩)) true ty).run Go.Proofs.Tryz.prog (w.iter s pos) = _ := fun ty => run_next_ascii w s pos ty hp ha
        generalize (s[pos]'hp) = c at hnx hall ha
        go_wp2
        all_goals first
          | (go_ret
             have hc : isDig c = false := by unfold isDig; simp; omega
             rw [hc] at hall
             rw [← hall]
             exact ⟨rfl, _, rfl⟩)
          | (refine ⟨⟨pos + 1, rfl, ?_⟩, by omega⟩
             have hc : isDig c = true := by unfold isDig; simp; omega
             rw [hc, Bool.true_and] at hall
             exact hall)
      · have hnx : ∀ ty, (Instr.next (.pointer (some ⟨w.heap.size, 0, none⟩)) true ty).run Go.Proofs.Tryz.prog (w.iter s pos) = _ := fun ty => run_next_any w s pos ty hp
        have hd := (decode_high s pos hp (by omega)).1
        have hd2 := decode_le s pos
        have hc : isDig (s[pos]'hp) = false := by unfold isDig; simp; omega
        rw [hc] at hall
        generalize (Utf8.decode s pos).1 = d at hnx hd hd2
        go_wp2
        all_goals first
          | omega
          | (go_ret
             rw [← hall]
             exact ⟨rfl, _, rfl⟩)
          | (exfalso; omega)
    · have hnx : ∀ ty, (Instr.next (.pointer (some ⟨w.heap.size, 0, none⟩)) true ty).run Go.Proofs.Tryz.prog (w.iter s pos) = _ := fun ty => run_next_end w s pos ty hp
      rw [List.drop_eq_nil_of_le (by simpa using (by omega : s.size ≤ pos))] at hall
      go_wp2
      go_ret
      rw [← hall]
      exact ⟨rfl, _, rfl⟩
def num_all (s : Str) : Option Bool := some (s.b.all isDig)
theorem num_all_fn {a : Str} {s : Store} {Q : List AV → Store → Prop} (h : ok (num_all a) fun r => Q [.bool r] s) : FN Go.Proofs.Tryz.prog 328 [.str a.b] s Q := by
  unfold num_all at h
  rw [ok_some] at h
  intro G w vs h1 h2 h3 h4
  obtain ⟨v0, rfl, k0⟩ := strArgs1 h4
  rw [VR.inv_str k0]
  refine (all_calls ⟨a.b.toArray⟩ w (r := a.b.all isDig) (by simp)).mono fun e w' ⟨he, pos, hw⟩ => ?_
  subst hw
  obtain ⟨q1, q2, q3⟩ := iter_pres (s := ⟨a.b.toArray⟩) (pos := pos) h1
  exact ⟨_, _, s, _, he, h, q1, q3 h3, ⟨.bool _, trivial⟩, q2⟩
theorem num_all_fe {a : Str} {s : Store} {r : Bool} (h : num_all a = some r) : FE Go.Proofs.Tryz.prog 328 [.str a.b] s [.bool r] s := num_all_fn ⟨r, h, rfl, rfl⟩
end Go.AB
end

section
set_option maxRecDepth 4000
namespace Go.AB
open Go Go.RowKit
def digStep (st : Int × Bool) (c : UInt8) : Int × Bool :=
  let over := st.2 || decide (st.1 > (2147483647 - ((c.toNat : Int) - 48)).tdiv 10)
  (if over then st.1 else 10 * st.1 + ((c.toNat : Int) - 48), over)
def digL : List UInt8 → Int × Bool → Int × Int
  | [], st => if st.2 then (0, 5) else (st.1, 0)
  | c :: l, st => if isDig c then digL l (digStep st c) else (0, 11)
def DigRel (r : Int × Int) (l : List UInt8) (v4 v5 : Value) : Prop := ∃ (n : Int) (over : Bool), v4 = .int .i64 n ∧ v5 = .bool over ∧ 0 ≤ n ∧ n ≤ 2147483647 ∧ digL l (n, over) = r
theorem DigRel.step {r : Int × Int} {c : UInt8} {l : List UInt8} {n m : Int} {over o : Bool} (hd : 48 ≤ (c.toNat : Int) ∧ (c.toNat : Int) ≤ 57) (h0 : 0 ≤ n) (h1 : n ≤ 2147483647) (h : digL l (digStep (n, over) c) = r)
    (ho : o = (over || decide (n > (2147483647 - ((c.toNat : Int) - 48)).tdiv 10))) (hm : m = if o then n else 10 * n + ((c.toNat : Int) - 48)) : DigRel r l (.int .i64 m) (.bool o) := by
  subst ho; subst hm
  refine ⟨_, _, rfl, rfl, ?_, ?_, h⟩
  · split <;> omega
  · split
    · omega
    · rename_i hh
      have hh : ¬ n > (2147483647 - ((c.toNat : Int) - 48)).tdiv 10 := by simp at hh; omega
      rw [Int.tdiv_eq_ediv_of_nonneg (by omega)] at hh
      omega
theorem dig_over {c : Int} (hd : 48 ≤ c ∧ c ≤ 57) : ((((2147483647 - (((c - 48 + 2147483648) % 4294967296 - 2147483648 + 9223372036854775808) % 18446744073709551616 - 9223372036854775808) + 9223372036854775808) % 18446744073709551616 - 9223372036854775808).tdiv 10 + 9223372036854775808) % 18446744073709551616 - 9223372036854775808) = (2147483647 - (c - 48)).tdiv 10 := by
  have e1 : ((c - 48 + 2147483648) % 4294967296 - 2147483648 + 9223372036854775808) % 18446744073709551616 - 9223372036854775808 = c - 48 := by omega
  rw [e1]
  have e2 : (2147483647 - (c - 48) + 9223372036854775808) % 18446744073709551616 - 9223372036854775808 = 2147483647 - (c - 48) := by omega
  rw [e2, Int.tdiv_eq_ediv_of_nonneg (by omega)]
  omega
theorem dig_next {c n : Int} (hd : 48 ≤ c ∧ c ≤ 57) (h0 : 0 ≤ n) (h1 : n ≤ 2147483647) : ((10 * n + 9223372036854775808) % 18446744073709551616 - 9223372036854775808 + (((c - 48 + 2147483648) % 4294967296 - 2147483648 + 9223372036854775808) % 18446744073709551616 - 9223372036854775808) + 9223372036854775808) % 18446744073709551616 - 9223372036854775808 = 10 * n + (c - 48) := by omega
set_option maxHeartbeats 40000000 in
theorem digits_calls (s : ByteArray) (w : World) {r : Int × Int} (hr : (if s.data.toList = [] then (0, 11) else digL s.data.toList (0, false)) = r) : Calls Go.Proofs.Tryz.prog 329 #[.string s] w fun e w' => e = .returned (.tuple #[.int .i64 r.1, .int .i64 r.2]) ∧ (w' = w ∨ ∃ pos, w' = w.iter s pos) := by
  have mixed := mix
  have t3 : Go.Proofs.Tryz.prog.underlying 3 = some (.int .i64) := by kernel_rfl
  have u3 := run_underlying t3
  have t9 : Go.Proofs.Tryz.prog.underlying 9 = some .string := by kernel_rfl
  have u9 := run_underlying t9
  go_enter Go.Proofs.Tryz.func329, (show Go.Proofs.Tryz.f329.ntmps = 36 from rfl)
  go_wp2
  · have hq := ‹s.toList.isEmpty = true›
    have hc : s.data.toList = [] := by
      obtain ⟨⟨l⟩⟩ := s
      simpa using hq
    rw [if_pos hc] at hr
    subst hr
    go_ret2
    exact ⟨rfl, .inl rfl⟩
  have hq := ‹s.toList.isEmpty = false›
  have hc : s.data.toList ≠ [] := by
    obtain ⟨⟨l⟩⟩ := s
    simpa using hq
  rw [if_neg hc] at hr
  go_loopw [4, 5] (fun v4 v5 w' => ∃ (pos : Nat), w' = w.iter s pos ∧ DigRel r (s.data.toList.drop pos) v4 v5) (fun _ _ w' => s.size - w'.iterPos w.heap.size)
  case atStart => exact ⟨0, rfl, 0, false, rfl, rfl, by omega, by omega, hr⟩
  case round =>
    obtain ⟨pos, rfl, n, over, rfl, rfl, hn0, hn1, hall⟩ := hrel
    by_cases hp : pos < s.size
    · rw [drop_at s pos hp, digL] at hall
      by_cases ha : (s[pos]'hp).toNat < 128
      · have hnx : ∀ ty, (Instr.next (.pointer (some ⟨w.heap.size, 0, none⟩)) true ty).run Go.Proofs.Tryz.prog (w.iter s pos) = _ := fun ty => run_next_ascii w s pos ty hp ha
        generalize (s[pos]'hp) = c at hnx hall ha
        by_cases hdig : 48 ≤ (c.toNat : Int) ∧ (c.toNat : Int) ≤ 57
        · have hc : isDig c = true := by unfold isDig; simp; omega
          rw [if_pos hc] at hall
          cases over <;> go_wp2
          all_goals first
            | (exfalso; omega)
            | (refine ⟨⟨_, _, _, _, ⟨pos + 1, rfl, ?_⟩, rfl, rfl, rfl, rfl⟩, by omega⟩
               first
                 | exact DigRel.step hdig hn0 hn1 hall rfl rfl
                 | (have hx := ‹(!decide (_ < n)) = true›
                    simp only [Bool.not_eq_true'] at hx
                    refine DigRel.step hdig hn0 hn1 hall (by rw [dig_over hdig]; rfl) ?_
                    rw [hx]
                    exact dig_next hdig hn0 hn1)
                 | (have hx := ‹(!decide (_ < n)) = false›
                    simp only [Bool.not_eq_false'] at hx
                    refine DigRel.step hdig hn0 hn1 hall (by rw [dig_over hdig]; rfl) ?_
                    rw [hx]
                    rfl))
        · have hc : isDig c = false := by unfold isDig; simp; omega
          rw [hc] at hall
          have hall : ((0 : Int), (11 : Int)) = r := hall
          subst hall
          cases over <;> go_wp2
          all_goals first
            | (exfalso; omega)
            | (go_ret2
               exact ⟨rfl, .inr ⟨_, rfl⟩⟩)
      · have hnx : ∀ ty, (Instr.next (.pointer (some ⟨w.heap.size, 0, none⟩)) true ty).run Go.Proofs.Tryz.prog (w.iter s pos) = _ := fun ty => run_next_any w s pos ty hp
        have hd := (decode_high s pos hp (by omega)).1
        have hd2 := decode_le s pos
        have hc : isDig (s[pos]'hp) = false := by unfold isDig; simp; omega
        rw [hc] at hall
        have hall : ((0 : Int), (11 : Int)) = r := hall
        subst hall
        generalize (Utf8.decode s pos).1 = d at hnx hd hd2
        cases over <;> go_wp2
        all_goals first
          | (exfalso; omega)
          | (go_ret2
             exact ⟨rfl, .inr ⟨_, rfl⟩⟩)
    · have hnx : ∀ ty, (Instr.next (.pointer (some ⟨w.heap.size, 0, none⟩)) true ty).run Go.Proofs.Tryz.prog (w.iter s pos) = _ := fun ty => run_next_end w s pos ty hp
      rw [List.drop_eq_nil_of_le (by simpa using (by omega : s.size ≤ pos))] at hall
      cases over <;> go_wp2
      all_goals (go_ret2; subst hall; exact ⟨rfl, .inr ⟨_, rfl⟩⟩)
def num_Digits (s : Str) : Option (Int × Int) := some (if s.b = [] then (0, 11) else digL s.b (0, false))
theorem num_Digits_fn {a : Str} {s : Store} {Q : List AV → Store → Prop} (h : ok (num_Digits a) fun r => Q [.int .i64 r.1, .int .i64 r.2] s) : FN Go.Proofs.Tryz.prog 329 [.str a.b] s Q := by
  unfold num_Digits at h
  rw [ok_some] at h
  intro G w vs h1 h2 h3 h4
  obtain ⟨v0, rfl, k0⟩ := strArgs1 h4
  rw [VR.inv_str k0]
  refine (digits_calls ⟨a.b.toArray⟩ w (r := if a.b = [] then (0, 11) else digL a.b (0, false)) (by simp)).mono fun e w' ⟨he, hw⟩ => ?_
  generalize (if a.b = [] then ((0 : Int), (11 : Int)) else digL a.b (0, false)) = r at h he
  have hres : ∀ (G' : Gh) (w' : World), ResR G' w' [.int .i64 r.1, .int .i64 r.2] (.tuple #[.int .i64 r.1, .int .i64 r.2]) := fun G' w' => ⟨_, rfl, rfl, fun j x y hx hy => by
    match j, hx, hy with
    | 0, hx, hy => injection hx with hx; injection hy with hy; subst hx; subst hy; exact ⟨.int _ _, trivial⟩
    | 1, hx, hy => injection hx with hx; injection hy with hy; subst hx; subst hy; exact ⟨.int _ _, trivial⟩
    | _ + 2, hx, _ => simp at hx⟩
  rcases hw with hw | ⟨pos, hw⟩
  · subst hw
    exact ⟨_, _, s, G, he, h, h1, h3, hres _ _, Pres.refl G w'⟩
  · subst hw
    obtain ⟨q1, q2, q3⟩ := iter_pres (s := ⟨a.b.toArray⟩) (pos := pos) h1
    exact ⟨_, _, s, _, he, h, q1, q3 h3, hres _ _, q2⟩
theorem num_Digits_fe {a : Str} {s : Store} {r : Int × Int} (h : num_Digits a = some r) : FE Go.Proofs.Tryz.prog 329 [.str a.b] s [.int .i64 r.1, .int .i64 r.2] s := num_Digits_fn ⟨r, h, rfl, rfl⟩
end Go.AB
end

section
namespace Go.AB
open Go
def Wi (pre cs post : List AV) : List AV := pre ++ cs ++ post
@[go_sem] theorem Wi_cons (a : AV) (p cs r : List AV) : Wi (a :: p) cs r = a :: Wi p cs r := rfl
@[go_sem] theorem Wi_nilc (c : AV) (cs r : List AV) : Wi [] (c :: cs) r = c :: Wi [] cs r := rfl
@[go_sem] theorem Wi_nil (r : List AV) : Wi [] [] r = r := rfl
@[go_sem] theorem Wi_pre (p q cs r : List AV) : Wi (p ++ q) cs r = Wi p (q ++ cs) r := by simp [Wi]
@[go_sem] theorem Wi_post (p cs r : List AV) (a : AV) : Wi p cs (a :: r) = Wi p (cs ++ [a]) r := by simp [Wi]
theorem Wi_len (p cs r : List AV) : (Wi p cs r).length = p.length + cs.length + r.length := by simp [Wi]; omega
@[go_sem] theorem Wi_le (p cs r : List AV) (k n : Nat) (h : k + n ≤ cs.length) : (p.length + k + n ≤ (Wi p cs r).length) = True := by
  rw [Wi_len]; exact eq_true (by omega)
@[go_sem] theorem Wi_le0 (p cs r : List AV) (n : Nat) (h : n ≤ cs.length) : (p.length + n ≤ (Wi p cs r).length) = True := by
  rw [Wi_len]; exact eq_true (by omega)
@[go_sem] theorem Wi_lt (p cs r : List AV) (k : Nat) (h : k < cs.length) : (p.length + k < (Wi p cs r).length) = True := by
  rw [Wi_len]; exact eq_true (by omega)
@[go_sem] theorem Wi_lt0 (p cs r : List AV) (h : 0 < cs.length) : (p.length < (Wi p cs r).length) = True := by
  rw [Wi_len]; exact eq_true (by omega)
@[go_sem] theorem sub_Wi (p cs r : List AV) (k n : Nat) (h : k + n ≤ cs.length) : AB.sub (Wi p cs r) (p.length + k) n = AB.sub cs k n := by
  unfold AB.sub Wi
  rw [List.append_assoc, ← List.drop_drop, List.drop_left, List.drop_append_of_le_length (by omega), List.take_append_of_le_length (by rw [List.length_drop]; omega)]
@[go_sem] theorem sub_Wi0 (p cs r : List AV) (n : Nat) (h : n ≤ cs.length) : AB.sub (Wi p cs r) p.length n = AB.sub cs 0 n := sub_Wi p cs r 0 n (by omega)
theorem setAt_Wi' (p cs r : List AV) (k : Nat) (news : List AV) (h : k + news.length ≤ cs.length) : setAt (Wi p cs r) (p.length + k) news = Wi p (setAt cs k news) r := by
  unfold setAt Wi
  have e1 : (p ++ cs ++ r).take (p.length + k) = p ++ cs.take k := by
    rw [List.append_assoc, List.take_append, List.take_of_length_le (by omega), Nat.add_sub_cancel_left, List.take_append_of_le_length (by omega)]
  have e2 : (p ++ cs ++ r).drop (p.length + k + news.length) = cs.drop (k + news.length) ++ r := by
    rw [List.append_assoc, Nat.add_assoc, ← List.drop_drop, List.drop_left, List.drop_append_of_le_length h]
  rw [e1, e2]
  simp [List.append_assoc]
@[go_sem] theorem setAt_Wi (p cs r : List AV) (k : Nat) (news : List AV) (h : k + news.length ≤ cs.length) : setAt (Wi p cs r) (p.length + k) news = Wi p (setAt cs k news) r := setAt_Wi' p cs r k news h
@[go_sem] theorem setAt_Wi0 (p cs r : List AV) (news : List AV) (h : news.length ≤ cs.length) : setAt (Wi p cs r) p.length news = Wi p (setAt cs 0 news) r := setAt_Wi' p cs r 0 news (by omega)
theorem get_Wi' (p cs r : List AV) (k : Nat) (h : k < cs.length) : (Wi p cs r)[p.length + k]? = cs[k]? := by
  unfold Wi
  rw [List.append_assoc, List.getElem?_append_right (by omega), Nat.add_sub_cancel_left, List.getElem?_append_left h]
@[go_sem] theorem get_Wi (p cs r : List AV) (k : Nat) (h : k < cs.length) : (Wi p cs r)[p.length + k]? = cs[k]? := get_Wi' p cs r k h
@[go_sem] theorem get_Wi0 (p cs r : List AV) (h : 0 < cs.length) : (Wi p cs r)[p.length]? = cs[0]? := get_Wi' p cs r 0 h
theorem takeC_Wi' (p cs r : List AV) (k : Nat) (K : List AV → AV → Prop) (h : k < cs.length) : takeC (p.length + k) (Wi p cs r) K = takeC k cs fun cs' a => K (Wi p cs' r) a := by
  unfold takeC
  rw [get_Wi' p cs r k h]
  cases cs[k]? with
  | none => rfl
  | some a =>
    cases a <;> try rfl
    rename_i o sz n ds
    show K (setAt (Wi p cs r) (p.length + k) [.sl false sz n ds]) _ = K (Wi p (setAt cs k [.sl false sz n ds]) r) _
    rw [setAt_Wi' p cs r k [.sl false sz n ds] (show k + 1 ≤ cs.length by omega)]
@[go_sem] theorem takeC_Wi (p cs r : List AV) (k : Nat) (K : List AV → AV → Prop) (h : k < cs.length) : takeC (p.length + k) (Wi p cs r) K = takeC k cs fun cs' a => K (Wi p cs' r) a := takeC_Wi' p cs r k K h
@[go_sem] theorem takeC_Wi0 (p cs r : List AV) (K : List AV → AV → Prop) (h : 0 < cs.length) : takeC p.length (Wi p cs r) K = takeC 0 cs fun cs' a => K (Wi p cs' r) a := takeC_Wi' p cs r 0 K h
theorem shrI_le {k : IntKind} {a b : Int} (h : 0 ≤ a) : 0 ≤ shrI k a b ∧ shrI k a b ≤ a := by
  unfold shrI
  have hp : (0 : Int) < 2 ^ (min b.toNat k.bits) := Int.pow_pos (by decide)
  rw [Int.fdiv_eq_ediv_of_nonneg _ (Int.le_of_lt hp)]
  exact ⟨Int.ediv_nonneg h (Int.le_of_lt hp), Int.ediv_le_self _ h⟩
theorem u8w_id {n : Int} (h0 : 0 ≤ n) (h1 : n < 256) : ((u8w n).toNat : Int) = n := by
  unfold u8w
  have e : IntKind.u8.wrap n = n := by
    show n.emod 256 = n
    exact Int.emod_eq_of_lt h0 h1
  rw [e]
  show ((UInt8.ofNat n.toNat).toNat : Int) = n
  rw [UInt8.toNat_ofNat']
  omega
theorem u32w_id {n : Int} (h0 : 0 ≤ n) (h1 : n < 4294967296) : ((u32w n).toNat : Int) = n := by
  unfold u32w
  have e : IntKind.u32.wrap n = n := by
    show n.emod 4294967296 = n
    exact Int.emod_eq_of_lt h0 h1
  rw [e]
  show ((UInt32.ofNat n.toNat).toNat : Int) = n
  rw [UInt32.toNat_ofNat']
  omega
@[go_sem] theorem shr8 (x : UInt8) (k : Int) : ((u8w (shrI .u8 (x.toNat : Int) k)).toNat : Int) = shrI .u8 (x.toNat : Int) k := by
  have := shrI_le (k := .u8) (a := (x.toNat : Int)) (b := k) (by omega)
  have := x.toNat_lt
  exact u8w_id (by omega) (by omega)
@[go_sem] theorem shr8_128 (k : Int) : ((u8w (shrI .u8 128 k)).toNat : Int) = shrI .u8 128 k := by
  have := shrI_le (k := .u8) (a := 128) (b := k) (by omega)
  exact u8w_id (by omega) (by omega)
@[go_sem] theorem shr32 (x : UInt32) (k : Int) : ((u32w (shrI .u32 (x.toNat : Int) k)).toNat : Int) = shrI .u32 (x.toNat : Int) k := by
  have := shrI_le (k := .u32) (a := (x.toNat : Int)) (b := k) (by omega)
  have := x.toNat_lt
  exact u32w_id (by omega) (by omega)
attribute [go_sem] Nat.add_zero
@[go_sem] theorem part_zero {α : Type} (l : List α) (hi : Int) : part l 0 hi = l.take hi.toNat := by
  unfold part
  rw [Int.toNat_zero, List.drop_zero, Int.sub_zero]
@[go_sem] theorem le_add_6 (n : Nat) : ((6 : Int) ≤ ((n + 6 : Nat) : Int)) = True := eq_true (by omega)
@[go_sem] theorem getD_0 (l : List UInt8) : l.getD 0 0 = ix l 0 := rfl
@[go_sem] theorem isV_one : isV .one = true := rfl
@[go_sem] theorem view_one : view .one = .one := rfl
@[go_sem] theorem ge_0 : ((0 : Int) ≤ 0) = True := eq_true (by decide)
@[go_sem] theorem ge_1 : ((0 : Int) ≤ 1) = True := eq_true (by decide)
@[go_sem] theorem ge_2 : ((0 : Int) ≤ 2) = True := eq_true (by decide)
@[go_sem] theorem ge_3 : ((0 : Int) ≤ 3) = True := eq_true (by decide)
@[go_sem] theorem ge_4 : ((0 : Int) ≤ 4) = True := eq_true (by decide)
@[go_sem] theorem ge_5 : ((0 : Int) ≤ 5) = True := eq_true (by decide)
@[go_sem] theorem ge_6 : ((0 : Int) ≤ 6) = True := eq_true (by decide)
@[go_sem] theorem ge_7 : ((0 : Int) ≤ 7) = True := eq_true (by decide)
@[go_sem] theorem ge_8 : ((0 : Int) ≤ 8) = True := eq_true (by decide)
@[go_sem] theorem ge_9 : ((0 : Int) ≤ 9) = True := eq_true (by decide)
@[go_sem] theorem ge_10 : ((0 : Int) ≤ 10) = True := eq_true (by decide)
@[go_sem] theorem ge_11 : ((0 : Int) ≤ 11) = True := eq_true (by decide)
@[go_sem] theorem ge_12 : ((0 : Int) ≤ 12) = True := eq_true (by decide)
@[go_sem] theorem ge_13 : ((0 : Int) ≤ 13) = True := eq_true (by decide)
@[go_sem] theorem ge_14 : ((0 : Int) ≤ 14) = True := eq_true (by decide)
@[go_sem] theorem ge_15 : ((0 : Int) ≤ 15) = True := eq_true (by decide)
@[go_sem] theorem ge_16 : ((0 : Int) ≤ 16) = True := eq_true (by decide)
@[go_sem] theorem ge_24 : ((0 : Int) ≤ 24) = True := eq_true (by decide)
@[go_sem] theorem ge_32 : ((0 : Int) ≤ 32) = True := eq_true (by decide)
structure Bld where
  a : AV
  b : AV
def Bld.zero : Bld := ⟨.nilp, .sl false 1 0 []⟩
@[go_sem] theorem Bld_zero_a : Bld.zero.a = .nilp := rfl
@[go_sem] theorem Bld_zero_b : Bld.zero.b = .sl false 1 0 [] := rfl
end Go.AB
end

section
namespace Go.AB
open Go
def GhStep (G G2 : Gh) : Prop := ∀ b, G.R b ≤ G2.R b ∧ (G.O b ≠ .sh → G2.O b = G.O b ∧ G2.R b = G.R b)
theorem FN.conv {P : Program} {f : FuncId} {args : List AV} {s : Store} {Q Q' : List AV → Store → Prop} (h : FN P f args s Q)
    (k : ∀ rs s', Q rs s' → ∀ G w v, GoodW G w → StoreR G w s' → ResR G w rs v → ∃ rs2 s2 G2, Q' rs2 s2 ∧ GhStep G G2 ∧ GoodW G2 w ∧ StoreR G2 w s2 ∧ ResR G2 w rs2 v) : FN P f args s Q' := by
  intro G w vs h1 h2 h3 h4
  refine (h G w vs h1 h2 h3 h4).mono fun e w' ⟨v, rs, s', G', a, hq, hg, hs, hr, hp⟩ => ?_
  obtain ⟨rs2, s2, G2, k1, k2, k3, k4, k5⟩ := k rs s' hq G' w' v hg hs hr
  refine ⟨v, rs2, s2, G2, a, k1, k3, k4, k5, hp.os, hp.tape, hp.output, hp.drawn, hp.size, fun b hb => Nat.le_trans (hp.mono b hb) (k2 b).1, hp.stable, hp.frame, fun b hb ho => ?_, fun b hb ho => ?_⟩
  · obtain ⟨q1, q2⟩ := hp.frameO b hb ho
    obtain ⟨q3, q4⟩ := (k2 b).2 (by rw [q1]; simp)
    exact ⟨q3.trans q1, q4.trans q2⟩
  · obtain ⟨q1, q2⟩ := hp.noneO b hb ho
    obtain ⟨q3, q4⟩ := (k2 b).2 (by rw [q1]; simp)
    exact ⟨q3.trans q1, q4.trans q2⟩
section
variable {G : Gh} {w : World} {s : Store} {b : Nat}
theorem step_at (h : StoreR G w s) (hg : GoodW G w) {cs : List AV} (hs : s b = some (.cells cs)) (r : Nat) :
    GhStep G (G.upd b (.res 0) r) ∧ GoodW (G.upd b (.res 0) r) w ∧ StoreR (G.upd b (.res 0) r) w (s.del b) ∧ (∀ a v, VR w G.R a v → VR w (G.upd b (.res 0) r).R a v) := by
  obtain ⟨q2, q3, c, t, q4, q5, q6⟩ := h b _ hs
  have hR : ∀ b', G.R b' ≤ (G.upd b (.res 0) r).R b' := fun b' => by
    by_cases hb : b' = b
    · subst hb; rw [q3]; exact Nat.zero_le _
    · simp [hb]
  have hv : ∀ a v, VR w G.R a v → VR w (G.upd b (.res 0) r).R a v := fun a v h => h.mono hR fun _ _ _ => rfl
  have same : ∀ b', b' ≠ b → (G.upd b (.res 0) r).O b' = G.O b' ∧ (G.upd b (.res 0) r).R b' = G.R b' := fun b' hb' => ⟨by simp [hb'], by simp [hb']⟩
  have hlt : b < w.heap.size := hg.lt (by rw [q2]; simp)
  refine ⟨fun b' => ⟨hR b', fun hb' => same b' fun e => by subst e; exact hb' q2⟩, ⟨fun b' hb' => ?_, fun b' hb' => ?_⟩, ?_, hv⟩
  · have : b' ≠ b := by omega
    rw [(same b' this).1, hg.newO b' hb']
  · have : b' ≠ b := by omega
    rw [(same b' this).2, hg.newR b' hb']
  · intro b' o hb'
    unfold Store.del at hb'
    split at hb'
    · cases hb'
    · rename_i hne
      obtain ⟨r1, r2, r3⟩ := h b' o hb'
      refine ⟨(same b' hne).1.trans r1, (same b' hne).2.trans r2, ?_⟩
      cases o with
      | cells cs' =>
        obtain ⟨c', t', r4, r5, r6⟩ := r3
        exact ⟨c', t', r4, r5.mono hv (fun b'' j hb'' => by
          have : b'' ≠ b := fun e => by subst e; rw [q2] at hb''; cases hb''
          exact ⟨(same b'' this).1.trans hb'', (same b'' this).2, rfl⟩), r6⟩
      | map es =>
        obtain ⟨ents, clock, r4, r5, r6⟩ := r3
        exact ⟨ents, clock, r4, r5, fun j x y hx hy => ⟨hv _ _ (r6 j x y hx hy).1, hv _ _ (r6 j x y hx hy).2⟩⟩
theorem pack_us (h : StoreR G w s) (hg : GoodW G w) {n cap sz : Nat} {cs sp : List AV} {v : Value} (hs : s b = some (.cells (cs ++ sp))) (hc : 0 < cap) (hn : n ≤ cap) (hl : (cs ++ sp).length = cap * sz) (hl2 : cs.length = n * sz) (hvw : views (cs ++ sp) = cs ++ sp)
    (hr : ResR G w [.arr b 0 n cap] v) : ∃ G2, GhStep G G2 ∧ GoodW G2 w ∧ StoreR G2 w (s.del b) ∧ ResR G2 w [.us sz n cs] v := by
  obtain ⟨k1, k2, k3, k4⟩ := step_at h hg hs 0
  obtain ⟨q2, q3, c, t, q4, q5, q6⟩ := h b _ hs
  refine ⟨_, k1, k2, k3, .inr ⟨b, cap, c, t, sp, hc, hn, VR.inv_arr hr.1 hc, by simp, by simp, q4, by rw [q5.1, hl], hl2, hl, fun j x u hx hu => k4 _ _ (q5.2 j x u hx hu).1, q6, hvw⟩⟩
theorem pack_us0 {sz : Nat} {v : Value} (hr : ResR G w [.arr b 0 0 0] v) : ResR G w [.us sz 0 []] v := by
  rcases VR.inv_arr' hr.1 with e | ⟨_, _, e⟩
  · exact .inl ⟨rfl, rfl, .inr ⟨b, 0, e⟩⟩
  · exact .inl ⟨rfl, rfl, .inl e⟩
theorem pack_sl (h : StoreR G w s) (hg : GoodW G w) {n cap sz : Nat} {cs sp : List AV} {v : Value} (hs : s b = some (.cells (cs ++ sp))) (hc : 0 < cap) (hn : n ≤ cap) (hl : (cs ++ sp).length = cap * sz) (hl2 : cs.length = n * sz) (hvw : views cs = cs)
    (hr : ResR G w [.arr b 0 n cap] v) : ∃ G2, GhStep G G2 ∧ GoodW G2 w ∧ StoreR G2 w (s.del b) ∧ ResR G2 w [.sl true sz n cs] v := by
  obtain ⟨k1, k2, k3, k4⟩ := step_at h hg hs (n * sz)
  obtain ⟨q2, q3, c, t, q4, q5, q6⟩ := h b _ hs
  have e := VR.inv_arr hr.1 hc
  refine ⟨_, k1, k2, k3, ?_, ?_⟩
  · rw [e]
    refine .sl true sz n cs b 0 cap (fun j => c.getD j undef) (fun x hx => q6 x (List.mem_append_left _ hx)) hl2 (by simp [hl2]) hn (fun j x hj => ?_) (fun j x hj => ?_)
    all_goals
      have hj' : (cs ++ sp)[j]? = some x := by rw [List.getElem?_append_left (List.getElem?_eq_some_iff.1 hj).1]; exact hj
      have hlt : j < c.size := by rw [q5.1]; exact (List.getElem?_eq_some_iff.1 hj').1
      have hget : c[j]? = some (c.getD j undef) := by simp [Array.getD_eq_getD_getElem?, hlt]
    · rw [Nat.zero_add, cell_of_row w q4, hget]
    · exact k4 _ _ (q5.2 j x _ hj' hget).1
  · intro base m' cap' hv _
    rw [e] at hv
    injection hv with e1 e2 e3
    subst e3
    exact ⟨b, 0, c, t, (0, 0), e1.symm, by simp, by simp, q4, by rw [q5.1, hl, Nat.zero_add], fun j _ hj => by simp at hj, Nat.le_refl _, rfl, .inl rfl, fun j y _ hy => by
      have hlt : j < (cs ++ sp).length := by rw [← q5.1]; exact (Array.getElem?_eq_some_iff.1 hy).1
      exact oneCell_of_flat (q6 _ (List.getElem_mem hlt)) (q5.2 j _ y (List.getElem?_eq_getElem hlt) hy).1⟩
theorem pack_sl0 {sz : Nat} {v : Value} (hr : ResR G w [.arr b 0 0 0] v) : ResR G w [.sl true sz 0 []] v := by
  rcases VR.inv_arr' hr.1 with e | ⟨_, _, e⟩
  · refine ⟨?_, ?_⟩
    · rw [e]; exact .sl true sz 0 [] b 0 0 (fun _ => undef) Fl.nil (by simp) (by simp) (Nat.le_refl _) (fun j c hj => by simp at hj) (fun j c hj => by simp at hj)
    · intro base m' cap' hv hc; rw [e] at hv; injection hv with _ e2 e3; omega
  · refine ⟨by rw [e]; exact .slnil _ _, ?_⟩
    intro base m' cap' hv hc; rw [e] at hv; injection hv with _ e2 e3; omega
end
theorem del_set {s : Store} {b : Nat} {o : SO} (h : s b = none) : (s.set b o).del b = s := by
  funext i
  unfold Store.set Store.del
  by_cases e : i = b
  · subst e; simp [h]
  · simp [e]
@[go_sem] theorem set_at {s : Store} {b : Nat} {o : SO} : (s.set b o) b = some o := by unfold Store.set; simp
def Sub (s2 s : Store) : Prop := ∀ b o, s2 b = some o → s b = some o
theorem Sub.refl (s : Store) : Sub s s := fun _ _ h => h
theorem Sub.set {s s2 : Store} (h : Sub s2 s) {b : Nat} {o : SO} (hb : s b = none) : Sub s2 (s.set b o) := fun b' o' h' => by
  have := h b' o' h'
  unfold Store.set
  split
  · rename_i e; subst e; rw [hb] at this; cases this
  · exact this
theorem Sub.set2 {s s2 : Store} (h : Sub s2 s) {b : Nat} {o : SO} : Sub (s2.set b o) (s.set b o) := fun b' o' h' => by
  unfold Store.set at h' ⊢
  split
  · rename_i e; rw [if_pos e] at h'; exact h'
  · rename_i e; rw [if_neg e] at h'; exact h b' o' h'
theorem Sub.del {s s2 : Store} (h : Sub s2 s) {b : Nat} (hb : s2 b = none) : Sub s2 (s.del b) := fun b' o' h' => by
  unfold Store.del
  split
  · rename_i e; subst e; rw [hb] at h'; cases h'
  · exact h b' o' h'
theorem Sub.none {s s2 : Store} (h : Sub s2 s) {b : Nat} (hb : s b = none) : s2 b = none := by
  cases h2 : s2 b with
  | none => rfl
  | some o => have := h b o h2; rw [hb] at this; cases this
theorem StoreR.sub {G : Gh} {w : World} {s s2 : Store} (h : StoreR G w s) (hs : Sub s2 s) : StoreR G w s2 := fun b o hb => h b o (hs b o hb)
theorem GhStep.refl (G : Gh) : GhStep G G := fun _ => ⟨Nat.le_refl _, fun _ => ⟨rfl, rfl⟩⟩
theorem FN.weak {P : Program} {f : FuncId} {args : List AV} {s : Store} {Q : List AV → Store → Prop} (h : FN P f args s fun rs s' => ∃ s2, Sub s2 s' ∧ Q rs s2) : FN P f args s Q :=
  h.conv fun rs _ ⟨s2, h1, h2⟩ G _ _ hg hs hr => ⟨rs, s2, G, h2, GhStep.refl G, hg, hs.sub h1, hr⟩
theorem FN.row_sl {P : Program} {f : FuncId} {args : List AV} {s s2 : Store} {Q : List AV → Store → Prop} {sz : Nat} {cs : List AV} {n : Nat} (hl2 : cs.length = n * sz) (hvw : views cs = cs) (hq : Q [.sl true sz n cs] s2)
    (h : FN P f args s fun rs s' => (∃ b cap sp, rs = [.arr b 0 n cap] ∧ s' b = some (.cells (cs ++ sp)) ∧ 0 < cap ∧ n ≤ cap ∧ (cs ++ sp).length = cap * sz ∧ Sub s2 (s'.del b)) ∨ (n = 0 ∧ cs = [] ∧ Sub s2 s' ∧ ∃ b, rs = [.arr b 0 0 0])) : FN P f args s Q := by
  refine h.conv fun rs s' hq' G w v hg hs hr => ?_
  rcases hq' with ⟨b, cap, sp, rfl, hb, hc, hn, hl, hsub⟩ | ⟨rfl, rfl, hsub, b, rfl⟩
  · obtain ⟨G2, k1, k2, k3, k4⟩ := pack_sl hs hg hb hc hn hl hl2 hvw hr
    exact ⟨_, _, G2, hq, k1, k2, k3.sub hsub, k4⟩
  · exact ⟨_, _, G, hq, GhStep.refl G, hg, hs.sub hsub, pack_sl0 hr⟩
theorem FN.row_us {P : Program} {f : FuncId} {args : List AV} {s s2 : Store} {Q : List AV → Store → Prop} {sz : Nat} {cs : List AV} {n : Nat} (hl2 : cs.length = n * sz) (hq : Q [.us sz n cs] s2)
    (h : FN P f args s fun rs s' => (∃ b cap sp, rs = [.arr b 0 n cap] ∧ s' b = some (.cells (cs ++ sp)) ∧ 0 < cap ∧ n ≤ cap ∧ (cs ++ sp).length = cap * sz ∧ views (cs ++ sp) = cs ++ sp ∧ Sub s2 (s'.del b)) ∨ (n = 0 ∧ cs = [] ∧ Sub s2 s' ∧ ∃ b, rs = [.arr b 0 0 0])) : FN P f args s Q := by
  refine h.conv fun rs s' hq' G w v hg hs hr => ?_
  rcases hq' with ⟨b, cap, sp, rfl, hb, hc, hn, hl, hvw, hsub⟩ | ⟨rfl, rfl, hsub, b, rfl⟩
  · obtain ⟨G2, k1, k2, k3, k4⟩ := pack_us hs hg hb hc hn hl hl2 hvw hr
    exact ⟨_, _, G2, hq, k1, k2, k3.sub hsub, k4⟩
  · exact ⟨_, _, G, hq, GhStep.refl G, hg, hs.sub hsub, pack_us0 hr⟩
def plainR : AV → Bool
  | .int _ _ => true
  | .bool _ => true
  | .str _ => true
  | _ => false
theorem plainR_vr {w w' : World} {R R' : Nat → Nat} {a : AV} {v : Value} (h : plainR a = true) (hv : VR w R a v) : VR w' R' a v := by
  cases a <;> first | (cases h; done) | skip
  · rw [VR.inv_bool hv]; exact .bool _
  · rw [VR.inv_int hv]; exact .int _ _
  · rw [VR.inv_str hv]; exact .str _
theorem FN.borrow {P : Program} {f : FuncId} {args args' : List AV} {s : Store} {Q : List AV → Store → Prop} (b k : Nat)
    (h : FN P f args' noStore fun rs _ => rs.all plainR = true ∧ Q rs s)
    (ha : ∀ (G : Gh) (w : World) (vs : Array Value), StoreR G w s → ArgsR w G.R args vs → ArgsR w (fun i => if i = b ∧ b < w.heap.size then k else G.R i) args' vs) : FN P f args s Q := by
  intro G w vs h1 h2 h3 h4
  let G1 : Gh := ⟨fun i => if i = b ∧ b < w.heap.size then k else G.R i, fun i => if G.O i = .none then .none else .frame⟩
  have hO1 : ∀ i, G1.O i = .frame ∨ G1.O i = .none := fun i => by
    show (if G.O i = .none then Owner.none else Owner.frame) = _ ∨ _
    by_cases e : G.O i = .none <;> simp [e, G1]
  have hg1 : GoodW G1 w := ⟨fun i hi => by simp [G1, h1.newO i hi], fun i hi => by
    have : ¬ (i = b ∧ b < w.heap.size) := by omega
    show (if i = b ∧ b < w.heap.size then k else G.R i) = 0
    rw [if_neg this, h1.newR i hi]⟩
  refine (h G1 w vs hg1 (fun i => (hO1 i).elim (fun e => .inr (.inl e)) .inl) (fun i o hi => by cases hi) (ha G w vs h3 h4)).mono fun e w' ⟨v, rs, s', G', he, ⟨hpl, hq⟩, _, _, hr, hp⟩ => ?_
  have same : ∀ i, i < w.heap.size → w'.heap[i]? = w.heap[i]? := fun i hi => hp.frame i hi (hO1 i)
  have hcell : ∀ i j, i < w.heap.size → w'.cell? ⟨i, j, none⟩ = w.cell? ⟨i, j, none⟩ := fun i j hi => World.cell?_of_block (same i hi)
  have hlt : ∀ i, G.O i ≠ .none → i < w.heap.size := fun i hi => h1.lt hi
  have hR0 : ∀ i j, j < G.R i → i < w.heap.size := fun i j hj => by
    rcases Nat.lt_or_ge i w.heap.size with h | h
    · exact h
    · rw [h1.newR i h] at hj; omega
  have hpres : Pres G w G w' := ⟨hp.os, hp.tape, hp.output, hp.drawn, hp.size, fun _ _ => Nat.le_refl _, fun i j hi _ => hcell i j hi, fun i hi _ => same i hi, fun i _ ho => ⟨ho, rfl⟩, fun i _ ho => ⟨ho, rfl⟩⟩
  have hg' : GoodW G w' := ⟨fun i hi => h1.newO i (Nat.le_trans hp.size hi), fun i hi => h1.newR i (Nat.le_trans hp.size hi)⟩
  refine ⟨v, rs, s, G, he, hq, hg', h3.mono h1 hpres (fun i hi => ⟨hi, rfl, same i (hlt i (by rw [hi]; simp))⟩) (fun i c j _ hc => ⟨hc, rfl, same c (hlt c (by rw [hc]; simp))⟩), ?_, hpres⟩
  match rs, hpl, hr with
  | [], _, hr =>
    obtain ⟨ys, q1, q2, q3⟩ := hr
    exact ⟨ys, q1, q2, fun j x y hx hy => by simp at hx⟩
  | [a], hpl, hr =>
    have hpa : plainR a = true := by simpa using hpl
    have hr' : VR w' G'.R a v ∧ OwnR G' w' (.res 0) a v := by
      cases a <;> first | exact hr | (cases hpa; done)
    show res1R G w' a v
    have hv := plainR_vr (w' := w') (R' := G.R) hpa hr'.1
    cases a <;> first | exact ⟨hv, trivial⟩ | (cases hpa; done)
  | a1 :: a2 :: rr, hpl, hr =>
    obtain ⟨ys, q1, q2, q3⟩ := hr
    refine ⟨ys, q1, q2, fun j x y hx hy => ?_⟩
    have hpa : plainR x = true := List.all_eq_true.1 hpl x (List.mem_of_getElem? hx)
    refine ⟨plainR_vr hpa (q3 j x y hx hy).1, ?_⟩
    cases x <;> first | trivial | (cases hpa; done)
theorem arr_view {G : Gh} {w : World} {s : Store} {b n cap sz : Nat} {cs : List AV} {v : Value} (h : StoreR G w s) (hlen : cs.length = n * sz) (hn : n ≤ cap) (hvw : views cs = cs) (hs : cs ≠ [] → ∃ sp, s b = some (.cells (cs ++ sp))) (hv : VR w G.R (.arr b 0 n cap) v) (hsz : 0 < sz) :
    VR w (fun i => if i = b ∧ b < w.heap.size then n * sz else G.R i) (.sl false sz n cs) v := by
  by_cases hcs : cs = []
  · subst hcs
    have hn0 : n = 0 := by
      rcases Nat.mul_eq_zero.1 hlen.symm with h | h
      · exact h
      · omega
    subst hn0
    rcases VR.inv_arr' hv with e | ⟨_, _, e⟩
    · rw [e]; exact .sl false sz 0 [] b 0 cap (fun _ => undef) Fl.nil (by simp) (Nat.zero_le _) (Nat.zero_le _) (fun j c hj => by simp at hj) (fun j c hj => by simp at hj)
    · rw [e]; exact .slnil _ _
  · obtain ⟨sp, hs⟩ := hs hcs
    obtain ⟨q2, q3, c, t, q4, q5, q6⟩ := h b _ hs
    have hb : b < w.heap.size := by
      rcases Nat.lt_or_ge b w.heap.size with h | h
      · exact h
      · rw [Array.getElem?_eq_none h] at q4; cases q4
    have hn0 : 0 < n := by
      rcases Nat.eq_zero_or_pos n with h | h
      · subst h; rw [Nat.zero_mul] at hlen; exact absurd (List.eq_nil_of_length_eq_zero hlen) hcs
      · exact h
    have e := VR.inv_arr hv (by omega)
    rw [e]
    have hmono : ∀ a u, VR w G.R a u → VR w (fun i => if i = b ∧ b < w.heap.size then n * sz else G.R i) a u := fun a u h => h.mono (fun i => by
      show G.R i ≤ if i = b ∧ b < w.heap.size then n * sz else G.R i
      split
      · rename_i e; rw [e.1, q3]; exact Nat.zero_le _
      · exact Nat.le_refl _) fun _ _ _ => rfl
    refine .sl false sz n cs b 0 cap (fun j => c.getD j undef) (fun x hx => q6 x (List.mem_append_left _ hx)) hlen (by simp [hb, hlen]) hn (fun j x hj => ?_) (fun j x hj => ?_)
    all_goals
      have hj' : (cs ++ sp)[j]? = some x := by rw [List.getElem?_append_left (List.getElem?_eq_some_iff.1 hj).1]; exact hj
      have hlt : j < c.size := by rw [q5.1]; exact (List.getElem?_eq_some_iff.1 hj').1
      have hget : c[j]? = some (c.getD j undef) := by simp [Array.getD_eq_getD_getElem?, hlt]
    · rw [Nat.zero_add, cell_of_row w q4, hget]
    · exact hmono _ _ (q5.2 j x _ hj' hget).1
end Go.AB
end

section
namespace Go.AB
open Go
theorem FN.own_us {P : Program} {f : FuncId} {args : List AV} {s : Store} {Q : List AV → Store → Prop} {sz n : Nat} {cs : List AV} (hpl : cs.all plainR = true) (hnu : ∀ x, cs[0]? ≠ some (.int .u8 x)) (hsz : 0 < sz)
    (h : FE P f args noStore [.sl true sz n cs] noStore) (hq : Q [.us sz n cs] s) : FN P f args s Q := by
  intro G w vs h1 h2 h3 h4
  let G1 : Gh := ⟨G.R, fun i => if G.O i = .none then .none else .frame⟩
  have hO1 : ∀ i, G1.O i = .frame ∨ G1.O i = .none := fun i => by
    show (if G.O i = .none then Owner.none else Owner.frame) = _ ∨ _
    by_cases e : G.O i = .none <;> simp [e, G1]
  have hg1 : GoodW G1 w := ⟨fun i hi => by simp [G1, h1.newO i hi], fun i hi => h1.newR i hi⟩
  refine (h G1 w vs hg1 (fun i => (hO1 i).elim (fun e => .inr (.inl e)) .inl) (fun i o hi => by cases hi) h4).mono fun e w' ⟨v, rs, s', G', he, ⟨hrs, _⟩, hg', _, hr, hp⟩ => ?_
  subst hrs
  have hr' : VR w' G'.R (.sl true sz n cs) v ∧ OwnR G' w' (.res 0) (.sl true sz n cs) v := hr
  have same : ∀ i, i < w.heap.size → w'.heap[i]? = w.heap[i]? := fun i hi => hp.frame i hi (hO1 i)
  have hcell : ∀ i j, i < w.heap.size → w'.cell? ⟨i, j, none⟩ = w.cell? ⟨i, j, none⟩ := fun i j hi => World.cell?_of_block (same i hi)
  have hlt : ∀ i, G.O i ≠ .none → i < w.heap.size := fun i hi => h1.lt hi
  have old : ∀ i, i < w.heap.size → G'.O i ≠ .res 0 ∧ G'.R i = G.R i := fun i hi => by
    rcases hO1 i with e | e
    · obtain ⟨q1, q2⟩ := hp.frameO i hi e; exact ⟨by rw [q1]; simp, q2⟩
    · obtain ⟨q1, q2⟩ := hp.noneO i hi e; exact ⟨by rw [q1]; simp, q2⟩
  -- the ghosts behind, but for a new row
  have fin : ∀ (b : Nat), w.heap.size ≤ b → b < w'.heap.size → ∀ G2 : Gh, G2 = ⟨fun i => if i = b then 0 else G'.R i, fun i => if i < w.heap.size then G.O i else if i = b then .res 0 else .none⟩ →
      GoodW G2 w' ∧ StoreR G2 w' s ∧ Pres G w G2 w' := by
    intro b hb1 hb2 G2 hG2
    subst hG2
    have hpres : Pres G w ⟨fun i => if i = b then 0 else G'.R i, fun i => if i < w.heap.size then G.O i else if i = b then .res 0 else .none⟩ w' := by
      refine ⟨hp.os, hp.tape, hp.output, hp.drawn, hp.size, fun i hi => ?_, fun i j hi _ => hcell i j hi, fun i hi _ => same i hi, fun i hi ho => ?_, fun i hi ho => ?_⟩
      · show G.R i ≤ if i = b then 0 else G'.R i
        rw [if_neg (by omega), (old i hi).2]; exact Nat.le_refl _
      · refine ⟨?_, ?_⟩
        · show (if i < w.heap.size then G.O i else _) = _
          rw [if_pos hi]; exact ho
        · show (if i = b then 0 else G'.R i) = _
          rw [if_neg (by omega), (old i hi).2]
      · refine ⟨?_, ?_⟩
        · show (if i < w.heap.size then G.O i else _) = _
          rw [if_pos hi]; exact ho
        · show (if i = b then 0 else G'.R i) = _
          rw [if_neg (by omega), (old i hi).2]
    refine ⟨⟨fun i hi => ?_, fun i hi => ?_⟩, ?_, hpres⟩
    · have := hp.size
      show (if i < w.heap.size then G.O i else if i = b then .res 0 else .none) = _
      rw [if_neg (by omega), if_neg (by omega)]
    · show (if i = b then 0 else G'.R i) = 0
      rw [if_neg (by omega), hg'.newR i hi]
    · have hk : ∀ i, G.O i ≠ .none → (if i < w.heap.size then G.O i else if i = b then Owner.res 0 else Owner.none) = G.O i ∧ (if i = b then 0 else G'.R i) = G.R i ∧ w'.heap[i]? = w.heap[i]? := fun i hi => by
        have hi' := hlt i hi
        exact ⟨if_pos hi', by rw [if_neg (by omega), (old i hi').2], same i hi'⟩
      exact h3.mono h1 hpres (fun i hi => by
        obtain ⟨k1, k2, k3⟩ := hk i (by rw [hi]; simp)
        exact ⟨k1.trans hi, k2, k3⟩) (fun i c j _ hc => by
        obtain ⟨k1, k2, k3⟩ := hk c (by rw [hc]; simp)
        exact ⟨k1.trans hc, k2, k3⟩)
  -- nothing new: the first free place stands for the row
  have none_ : UsR ⟨G.R, G.O⟩ w' (.res 0) sz n cs v → ∃ v rs s' G'', e = .returned v ∧ Q rs s' ∧ GoodW G'' w' ∧ StoreR G'' w' s' ∧ ResR G'' w' rs v ∧ Pres G w G'' w' := by
    intro hu
    have hpres : Pres G w G w' := ⟨hp.os, hp.tape, hp.output, hp.drawn, hp.size, fun _ _ => Nat.le_refl _, fun i j hi _ => hcell i j hi, fun i hi _ => same i hi, fun i _ ho => ⟨ho, rfl⟩, fun i _ ho => ⟨ho, rfl⟩⟩
    refine ⟨v, _, s, G, he, hq, ⟨fun i hi => h1.newO i (Nat.le_trans hp.size hi), fun i hi => h1.newR i (Nat.le_trans hp.size hi)⟩, h3.mono h1 hpres (fun i hi => ⟨hi, rfl, same i (hlt i (by rw [hi]; simp))⟩) (fun i c j _ hc => ⟨hc, rfl, same c (hlt c (by rw [hc]; simp))⟩), hu, hpres⟩
  rcases VR.inv_sl hr'.1 with ⟨e0, rfl, rfl⟩ | ⟨b, off, cap, e1, hl, hR, hcap, hat⟩
  · exact none_ (.inl ⟨rfl, rfl, .inl e0.own⟩)
  · by_cases hc0 : cap = 0
    · subst hc0
      have hn : n = 0 := by omega
      subst hn
      have hcs : cs = [] := List.eq_nil_of_length_eq_zero (by rw [hl]; simp)
      subst hcs
      exact none_ (.inl ⟨rfl, rfl, .inr ⟨b, off, e1⟩⟩)
    · obtain ⟨b', off', c, t, fz, q1, q2, q3, q4, q5, _, _, rfl, hz, hone⟩ := hr'.2 _ _ _ e1 (by omega)
      injection q1 with q1; injection q1 with q1 q1' _
      subst q1; subst q1'
      have hz : fz = (0, 0) := by
        rcases hz with hz | ⟨hn0, x, hz⟩
        · exact hz
        · obtain ⟨u, u1, u2, _⟩ := hat
          have hlt : 0 < cs.length := by rw [hl]; exact Nat.mul_pos hn0 hsz
          have k1 := u1 0 _ (List.getElem?_eq_getElem hlt)
          rw [Nat.zero_add, cell_of_row w' q4, hz] at k1
          injection k1 with k1
          have k2 := u2 0 _ (List.getElem?_eq_getElem hlt)
          rw [← k1] at k2
          have hp0 := List.all_eq_true.1 hpl _ (List.getElem_mem hlt)
          cases hc : cs[0] with
          | int k y =>
            rw [hc] at k2
            have := VR.inv_int k2
            injection this with t1 t2
            exact absurd (by rw [List.getElem?_eq_getElem hlt, hc, ← t1]) (hnu y)
          | bool y => rw [hc] at k2; have := VR.inv_bool k2; cases this
          | str y => rw [hc] at k2; have := VR.inv_str k2; cases this
          | _ => rw [hc] at hp0; cases hp0
      subst hz
      have hb1 : w.heap.size ≤ b := by
        rcases Nat.lt_or_ge b w.heap.size with hb | hb
        · exact absurd q2 (old b hb).1
        · exact hb
      have hb2 : b < w'.heap.size := (Array.getElem?_eq_some_iff.1 q4).1
      obtain ⟨f1, f2, f3⟩ := fin b hb1 hb2 _ rfl
      refine ⟨v, _, s, _, he, hq, f1, f2, ?_, f3⟩
      obtain ⟨u, u1, u2, u3⟩ := hat
      have hle : cs.length ≤ cap * sz := by rw [hl]; exact Nat.mul_le_mul_right _ hcap
      refine .inr ⟨b, cap, c, t, List.replicate (cap * sz - cs.length) .one, by omega, hcap, e1, ?_, ?_, q4, by rw [q5, Nat.zero_add], hl, by rw [List.length_append, List.length_replicate]; omega, fun j x y hx hy => ?_, fun x hx => ?_, ?_⟩
      · show (if b < w.heap.size then G.O b else if b = b then .res 0 else .none) = _
        rw [if_neg (by omega), if_pos rfl]
      · show (if b = b then 0 else G'.R b) = 0
        rw [if_pos rfl]
      · rcases Nat.lt_or_ge j cs.length with hj | hj
        · rw [List.getElem?_append_left hj] at hx
          have k1 := u1 j x hx
          rw [Nat.zero_add, cell_of_row w' q4, hy] at k1
          injection k1 with k1
          rw [k1]
          exact plainR_vr (List.all_eq_true.1 hpl x (List.mem_of_getElem? hx)) (u2 j x hx)
        · rw [List.getElem?_append_right hj, List.getElem?_replicate] at hx
          split at hx
          · injection hx with hx; rw [← hx]; exact .one _ (hone j y (by rw [← hl]; omega) hy)
          · cases hx
      · rcases List.mem_append.1 hx with hx | hx
        · exact u3 x hx
        · rw [(List.mem_replicate.1 hx).2]; rfl
      · unfold views
        rw [List.map_append, List.map_replicate]
        congr 1
        have : ∀ l : List AV, l.all plainR = true → l.map view = l := fun l h => by
          induction l with
          | nil => rfl
          | cons a l ih =>
            rw [List.all_cons, Bool.and_eq_true] at h
            rw [List.map_cons, ih h.2]
            cases a <;> first | rfl | (cases h.1; done)
        exact this cs hpl
end Go.AB
end

section
namespace Go.AB
open Go
def bigN : Nat := 18446744073709551616
@[go_sem] theorem nbeq_eq (a b : Nat) : Nat.beq a b = (a == b) := Bool.eq_iff_iff.2 (by rw [Nat.beq_eq]; simp)
theorem b_to {A C : Prop} {b : Bool} (h : b = true) (k : A → C) : A → b = true ∧ C := fun x => ⟨h, k x⟩
theorem n_to {A C : Prop} {a b : Nat} (h : a = b) (k : A → C) : A → a = b ∧ C := fun x => ⟨h, k x⟩
theorem sp_to {A P Q R : Prop} {b : Bool} {c1 c2 : Prop} (p : b = true → c1 → A → P) (q : b = true → c2 → A → Q) (r : b = false → A → R) : A → (b = true → c1 → P) ∧ (b = true → c2 → Q) ∧ (b = false → R) := fun a => ⟨fun h k => p h k a, fun h k => q h k a, fun h => r h a⟩
@[go_sem] theorem pad_int0 (l : List Int) : pad [.int .i64 0] (views (AB.sub (flat l) 0 1)) = [.int .i64 (ix l 0)] := pad_int l 0
theorem FE_cast {P : Program} {f : FuncId} {as1 as2 rs : List AV} {s s' : Store} (e : as1 = as2) (h : FE P f as1 s rs s') : FE P f as2 s rs s' := e ▸ h
def loadDR (σ : St) (d : Option Nat) (K : St → Prop) (b off : Nat) : Option SO → Prop
  | some (.cells cs) => takeC off cs fun cs' a => K ({ σ with s := σ.s.set b (.cells cs') }.put d a)
  | _ => False
@[go_sem] theorem loadDW_ref (σ : St) (d : Option Nat) (K : St → Prop) (b off : Nat) : loadDW σ d K (.ref b off) = loadDR σ d K b off (σ.s b) := by
  show (match σ.s b with | some (.cells cs) => takeC off cs fun cs' a => K ({ σ with s := σ.s.set b (.cells cs') }.put d a) | _ => False) = _
  unfold loadDR
  rcases σ.s b with _ | ⟨_ | _⟩ <;> rfl
@[go_sem] theorem loadDR_cells (σ : St) (d : Option Nat) (K : St → Prop) (b off : Nat) (cs : List AV) : loadDR σ d K b off (some (.cells cs)) = takeC off cs fun cs' a => K ({ σ with s := σ.s.set b (.cells cs') }.put d a) := rfl
def loadDL (σ : St) (d : Option Nat) (K : St → Prop) (i off : Nat) : AV → Prop
  | .loc cs => d ≠ some i ∧ takeC off cs fun cs' a => K ((σ.put (some i) (.loc cs')).put d a)
  | _ => False
@[go_sem] theorem loadDW_lp (σ : St) (d : Option Nat) (K : St → Prop) (i off : Nat) : loadDW σ d K (.lp i off) = loadDL σ d K i off (look σ.e i) := by
  show (match look σ.e i with | .loc cs => d ≠ some i ∧ takeC off cs fun cs' a => K ((σ.put (some i) (.loc cs')).put d a) | _ => False) = _
  cases look σ.e i <;> rfl
@[go_sem] theorem loadDL_loc (σ : St) (d : Nat) (K : St → Prop) (i off : Nat) (cs : List AV) : loadDL σ (some d) K i off (.loc cs) = (Nat.beq d i = false ∧ takeC off cs fun cs' a => K ((σ.put (some i) (.loc cs')).put (some d) a)) := by
  show (some d ≠ some i ∧ _) = _
  have e : (some d ≠ some i) = (Nat.beq d i = false) := propext ⟨fun h => by
    cases hb : Nat.beq d i with
    | false => rfl
    | true => exact (h (by rw [Nat.eq_of_beq_eq_true hb])).elim, fun h e => by
    injection e with e
    subst e
    rw [Nat.beq_refl] at h
    cases h⟩
  rw [e]
@[go_sem] theorem takeC_zero (o : Bool) (sz n : Nat) (ds cs : List AV) (k : List AV → AV → Prop) : takeC 0 (.sl o sz n ds :: cs) k = k (.sl false sz n ds :: cs) (.sl o sz n ds) := rfl
@[go_sem] theorem takeC_succ (a : AV) (n : Nat) (cs : List AV) (k : List AV → AV → Prop) : takeC (n + 1) (a :: cs) k = takeC n cs fun cs' x => k (a :: cs') x := by
  have e : ∀ x, setAt (a :: cs) (n + 1) [x] = a :: setAt cs n [x] := fun x => by
    unfold setAt
    rw [List.take_succ_cons, show n + 1 + [x].length = (n + [x].length) + 1 by simp [Nat.add_right_comm], List.drop_succ_cons]
    rfl
  unfold takeC
  rw [List.getElem?_cons_succ]
  cases h : cs[n]? with
  | none => rfl
  | some b => cases b <;> first | rfl | (simp only [e])
def ixI : AV → Option Int
  | .int _ n => some n
  | _ => none
@[go_sem] theorem ixV_none (f : IX → AV) (d : Int) : ixV f none d = some d := rfl
@[go_sem] theorem ixV_some (f : IX → AV) (x : IX) (d : Int) : ixV f (some x) d = ixI (f x) := rfl
@[go_sem] theorem ixI_int (k : IntKind) (n : Int) : ixI (.int k n) = some n := rfl
attribute [go_sem] Option.isSome_some Bool.cond_true
@[go_sem] theorem arrOff_zero (off cap sz : Nat) : arrOff off cap 0 sz = off := by
  unfold arrOff
  cases (cap == 0) <;> simp
@[go_sem] theorem toNat_zero : (0 : Int).toNat = 0 := rfl
attribute [go_sem] Int.toNat_natCast Int.sub_zero Nat.sub_zero
@[go_sem] theorem toNat_sub' (a b : Nat) : ((a : Int) - (b : Int)).toNat = a - b := by omega
section
variable {σ : St} {d : Option Nat} {K : St → Prop} {sz by' : Nat} {zero : List AV} {b off n cap m : Nat} {cs ds : List AV}
theorem srcV_arr {s : Store} (hs : s b = some (.cells cs)) (hf : off + m * sz ≤ cs.length) : srcV s sz (.arr b off m cap) = some (m, views (AB.sub cs off (m * sz))) := by
  show (bif m == 0 then some (0, []) else cellsAt m sz off (s b)) = _
  by_cases hm : m = 0
  · subst hm; simp [AB.sub, views]
  · rw [show (m == 0) = false by simpa using hm, hs]
    show (bif decide (off + m * sz ≤ cs.length) then some (m, views (AB.sub cs off (m * sz))) else none) = _
    rw [decide_eq_true hf]; rfl
theorem srcV_sl (s : Store) (ow : Bool) : srcV s sz (.sl ow sz m ds) = some (m, views ds) := by unfold srcV; simp
theorem srcV_none (s : Store) : srcV s sz (.arr b off 0 cap) = some (0, []) := rfl
theorem oldsV_arr {s : Store} (hs : s b = some (.cells cs)) (hf : off + n * sz ≤ cs.length) : oldsV s sz b off n = some (views (AB.sub cs off (n * sz))) := by
  unfold oldsV
  by_cases hm : n = 0
  · subst hm; simp [AB.sub, views]
  · rw [show (n == 0) = false by simpa using hm, hs]
    show ((bif decide (off + n * sz ≤ cs.length) then some (n, views (AB.sub cs off (n * sz))) else none) : Option (Nat × List AV)).map Prod.snd = _
    rw [decide_eq_true hf]; rfl
theorem appendAW_in (hz : zero.length = sz) (hs : σ.s b = some (.cells cs)) (hf : off + cap * sz ≤ cs.length) (hm : n + m ≤ cap)
    (hk : K ({ σ with s := σ.s.set b (.cells (setAt cs (off + n * sz) ds)) }.put d (.arr b off (n + m) cap))) : appendAW sz by' zero σ d K (.arr b off n cap) (some (m, ds)) := by
  have hn : off + n * sz ≤ cs.length := Nat.le_trans (Nat.add_le_add_left (Nat.mul_le_mul_right _ (by omega)) _) hf
  show appA sz by' zero σ d K b off n cap m ds (oldsV σ.s sz b off n)
  rw [oldsV_arr hs hn]
  refine ⟨hz, fun _ => .inr ⟨by rw [hs]; exact hf, ?_⟩, fun h => by omega⟩
  rw [hs]; exact hk
theorem appendAW_new (hz : zero.length = sz) {olds : List AV} (ho : oldsV σ.s sz b off n = some olds) (hm : cap < n + m) (hr : (n + m) * by' ≤ room)
    (hk : ∀ b' cap', σ.s b' = none → n + m ≤ cap' → K ({ σ with s := σ.s.set b' (.cells (olds ++ ds ++ (List.replicate (cap' - (n + m)) zero).flatten)) }.put d (.arr b' 0 (n + m) cap'))) : appendAW sz by' zero σ d K (.arr b off n cap) (some (m, ds)) := by
  show appA sz by' zero σ d K b off n cap m ds (oldsV σ.s sz b off n)
  rw [ho]
  exact ⟨hz, fun h => by omega, fun _ => ⟨hr, hk⟩⟩
theorem appendAW_zero (hz : zero.length = sz) {olds : List AV} (ho : oldsV σ.s sz b off n = some olds) (hm : n ≤ cap) (hk : K (σ.put d (.arr b off n cap))) : appendAW sz by' zero σ d K (.arr b off n cap) (some (0, ds)) := by
  show appA sz by' zero σ d K b off n cap 0 ds (oldsV σ.s sz b off n)
  rw [ho]
  exact ⟨hz, fun _ => .inl ⟨rfl, hk⟩, fun h => by omega⟩
theorem copyAW_in (hs : σ.s b = some (.cells cs)) (hf : off + n * sz ≤ cs.length)
    (hk : K ({ σ with s := σ.s.set b (.cells (setAt cs off (ds.take (min m n * sz)))) }.put d (.int .i64 (min m n : Nat)))) : copyAW sz σ d K (.arr b off n cap) (some (m, ds)) := by
  refine .inr ⟨by rw [hs]; exact hf, ?_⟩
  rw [hs]; exact hk
theorem copyAW_zero (h0 : min m n = 0) (hk : K (σ.put d (.int .i64 0))) : copyAW sz σ d K (.arr b off n cap) (some (m, ds)) := .inl ⟨h0, hk⟩
theorem clearAW_in (hz : views zero = zero) (hs : σ.s b = some (.cells cs)) (hf : off + n * zero.length ≤ cs.length)
    (hk : K ({ σ with s := σ.s.set b (.cells (setAt cs off (List.replicate n zero).flatten)) }.put d (.tup []))) : clearAW zero σ d K (.arr b off n cap) := by
  refine .inr ⟨by rw [hs]; exact hf, hz, ?_⟩
  rw [hs]; exact hk
theorem clearAW_zero (h0 : n = 0) (hk : K (σ.put d (.tup []))) : clearAW zero σ d K (.arr b off n cap) := .inl ⟨h0, hk⟩
theorem appendZW_new (hz : zero.length = sz) (hv : views zero = zero) {olds : List AV} (ho : oldsV σ.s sz b off n = some olds) (hm : cap < n + m) (hr : (n + m) * by' ≤ room)
    (hk : ∀ b' cap', σ.s b' = none → n + m ≤ cap' → K ({ σ with s := σ.s.set b' (.cells (olds ++ (List.replicate m zero).flatten ++ (List.replicate (cap' - (n + m)) zero).flatten)) }.put d (.arr b' 0 (n + m) cap'))) : appendZW sz by' zero σ d K (.arr b off n cap) (.int .i64 (m : Nat)) := by
  show 0 ≤ ((m : Nat) : Int) ∧ _
  refine ⟨Int.natCast_nonneg m, by simpa using hm, hv, ?_⟩
  rw [Int.toNat_natCast]
  show appA sz by' zero σ d K b off n cap m _ (oldsV σ.s sz b off n)
  rw [ho]
  exact ⟨hz, fun h => by omega, fun _ => ⟨hr, hk⟩⟩
theorem ovlW_in {P : Program} {f : FuncId} {ow : Bool} {b' off' n' cap' m : Nat} {cs : List AV} (h1 : OvlIs P f) (h2 : 0 < m) (h3 : cs ≠ []) (h4 : 0 < cap') {o : List AV} (h5 : σ.s b' = some (.cells o)) (h6 : o.length ≠ 0) (hk : K (σ.put d (.bool false))) : ovlW P f σ d K (.sl ow sz m cs) (.arr b' off' n' cap') := by
  cases m with
  | zero => omega
  | succ m => cases cs with
    | nil => exact absurd rfl h3
    | cons c cs => cases cap' with
      | zero => omega
      | succ cap' =>
        refine ⟨h1, ?_, hk⟩
        cases o with
        | nil => exact absurd rfl h6
        | cons _ _ => rw [h5]; exact trivial
theorem setAt2 (C X Y : List AV) (k k' : Nat) (h1 : k' = k + Y.length) (h2 : k' + X.length ≤ C.length) : setAt (setAt C k' X) k Y = C.take k ++ Y ++ X ++ C.drop (k' + X.length) := by
  unfold setAt
  have e1 : (C.take k' ++ X ++ C.drop (k' + X.length)).take k = C.take k := by
    rw [List.append_assoc, List.take_append_of_le_length (by simp; omega), List.take_take, Nat.min_eq_left (by omega)]
  have e2 : (C.take k' ++ X ++ C.drop (k' + X.length)).drop (k + Y.length) = X ++ C.drop (k' + X.length) := by
    rw [← h1, List.append_assoc, List.drop_append_of_le_length (by simp; omega), List.drop_of_length_le (by simp; omega), List.nil_append]
  rw [e1, e2]
  simp [List.append_assoc]
theorem arrOff_lt {off cap l sz : Nat} (h : l < cap) : arrOff off cap l sz = off + l * sz := by
  unfold arrOff; rw [show (cap == l) = false by simp; omega]; rfl
end
section
variable {α : Type} [Enc α]
theorem flat_take' (l : List α) (k : Nat) : flat (l.take k) = (flat l).take (k * Enc.w α) := (flat_take l k).symm
theorem flat_drop' (l : List α) (k : Nat) : flat (l.drop k) = (flat l).drop (k * Enc.w α) := (flat_drop l k).symm
theorem row_sub (l : List α) (sp : List AV) (n j m : Nat) (hn : n = Enc.w α) (h : j + m ≤ l.length) : AB.sub (flat l ++ sp) (j * n) (m * n) = flat ((l.drop j).take m) := by
  subst hn
  rw [← flat_sub l _ j m rfl]
  unfold AB.sub
  have h1 : j * Enc.w α ≤ (flat l).length := by rw [flat_len]; exact Nat.mul_le_mul_right _ (by omega)
  rw [List.drop_append_of_le_length h1, List.take_append_of_le_length]
  rw [List.length_drop, flat_len, ← Nat.sub_mul]
  exact Nat.mul_le_mul_right _ (by omega)
theorem row_set (l l' : List α) (sp : List AV) (n i : Nat) (hn : n = Enc.w α) (h : i + l'.length ≤ l.length) : setAt (flat l ++ sp) (i * n) (flat l') = flat (l.take i ++ l' ++ l.drop (i + l'.length)) ++ sp := by
  subst hn
  unfold setAt
  have e1 : i * Enc.w α + (flat l').length = (i + l'.length) * Enc.w α := by rw [flat_len, Nat.add_mul]
  have h1 : i * Enc.w α ≤ (flat l).length := by rw [flat_len]; exact Nat.mul_le_mul_right _ (by omega)
  have h2 : (i + l'.length) * Enc.w α ≤ (flat l).length := by rw [flat_len]; exact Nat.mul_le_mul_right _ h
  rw [e1, List.take_append_of_le_length h1, List.drop_append_of_le_length h2, flat_append, flat_append, flat_take', flat_drop']
  simp [List.append_assoc]
theorem row_room (l l' : List α) (sp : List AV) (n : Nat) (hn : n = Enc.w α) (h : l'.length * n ≤ sp.length) : setAt (flat l ++ sp) (l.length * n) (flat l') = flat (l ++ l') ++ sp.drop (l'.length * n) := by
  subst hn
  unfold setAt
  have e0 : l.length * Enc.w α = (flat l).length := (flat_len l).symm
  have e1 : (flat l').length = l'.length * Enc.w α := flat_len l'
  rw [e0, List.take_left, List.drop_append, e1, flat_append]
  rw [List.drop_of_length_le (by omega)]
  simp
theorem flat_rep (z : α) (k : Nat) : flat (List.replicate k z) = (List.replicate k (Enc.cells z)).flatten := by
  unfold flat; rw [List.map_replicate]
end
end Go.AB
end

section
namespace Go.AB
open Go
theorem iter_toR {P : Program} {S O : Type} {body : S → Option (S ⊕ O)} {s0 : S} {kf : O → Prop} {live : List (Nat × Bool)} {b : IC} {Q : Exit → St → Prop} {σ : St} (R : S → St → Prop)
    (h0 : R s0 (σ.keepV live))
    (hb : ∀ (J : St → Prop) (s : S) (τ : St), R s τ → ok (body s) (caseS (fun t => ∀ τ', R t τ' → J τ') kf) → cwp P b (joinK live J Q) τ) : ok (iter body s0) kf → cwp P (.loop live b) Q σ := by
  intro h
  have hmin : ∀ τ, (∃ m s, R s τ ∧ ok (iterN body m s) kf) → ∃ m, (∃ s, R s τ ∧ ok (iterN body m s) kf) ∧ ∀ k, k < m → ¬ ∃ s, R s τ ∧ ok (iterN body k s) kf := by
    rintro τ ⟨m, s, h⟩
    induction m using Nat.strongRecOn generalizing s with
    | _ m ih =>
      by_cases hk : ∃ k, k < m ∧ ∃ s, R s τ ∧ ok (iterN body k s) kf
      · obtain ⟨k, hk, s', h'⟩ := hk
        exact ih k hk s' h'
      · exact ⟨m, ⟨s, h⟩, fun k hk' hs => hk ⟨k, hk', hs⟩⟩
  have hμ : ∃ μ : St → Nat, ∀ τ, (∃ m s, R s τ ∧ ok (iterN body m s) kf) → (∃ s, R s τ ∧ ok (iterN body (μ τ) s) kf) ∧ ∀ k, k < μ τ → ¬ ∃ s, R s τ ∧ ok (iterN body k s) kf :=
    ⟨fun τ => Classical.epsilon fun m => (∃ s, R s τ ∧ ok (iterN body m s) kf) ∧ ∀ k, k < m → ¬ ∃ s, R s τ ∧ ok (iterN body k s) kf, fun τ hτ => Classical.epsilon_spec (hmin τ hτ)⟩
  obtain ⟨μ, hμ⟩ := hμ
  refine ⟨fun τ => ∃ m s, R s τ ∧ ok (iterN body m s) kf, μ, ⟨_, s0, h0, h⟩, ?_⟩
  intro τ hτ
  obtain ⟨⟨s, e, hs⟩, _⟩ := hμ τ hτ
  generalize hm : μ τ = m at hs
  cases m with
  | zero => exact (iterN_zero hs).elim
  | succ m =>
    rw [loopK_join]
    obtain ⟨x, hx, k⟩ := iterN_succ hs
    refine hb _ s τ e ⟨x, hx, ?_⟩
    cases x with
    | inr o => exact k
    | inl t =>
      intro τ' ht
      refine ⟨⟨m, t, ht, k⟩, ?_⟩
      have h2 := (hμ τ' ⟨m, t, ht, k⟩).2
      rcases Nat.lt_or_ge m (μ τ') with hlt | hge
      · exact (h2 m hlt ⟨t, ht, k⟩).elim
      · omega
theorem flat_cell2 {α : Type} [Enc α] (l : List α) (sp : List AV) {i r : Nat} (hi : i < l.length) (hr : r < Enc.w α) : (flat l ++ sp)[i * Enc.w α + r]? = (Enc.cells l[i])[r]? := by
  have hlt : i * Enc.w α + r < (flat l).length := by
    rw [flat_len]
    calc i * Enc.w α + r < (i + 1) * Enc.w α := by rw [Nat.add_mul]; omega
      _ ≤ l.length * Enc.w α := Nat.mul_le_mul_right _ hi
  rw [List.getElem?_append_left hlt]
  have h := flat_sub l (Enc.w α) i 1 rfl
  rw [Nat.one_mul, List.drop_eq_getElem_cons hi] at h
  have h2 : (AB.sub (flat l) (i * Enc.w α) (Enc.w α))[r]? = (Enc.cells l[i])[r]? := by
    rw [h]
    show (flat [l[i]])[r]? = _
    unfold flat
    simp
  rw [sub_get, if_pos hr] at h2
  exact h2
abbrev RowP := Option (Nat × Nat × List AV)
section
variable {α : Type} [Enc α]
def rowB : RowP → Nat
  | none => 0
  | some (b, _, _) => b
def rowC : RowP → Nat
  | none => 0
  | some (_, cap, _) => cap
abbrev rowA (r : RowP) (n : Nat) : AV := .arr (rowB r) 0 n (rowC r)
def rowS (s : Store) (r : RowP) (l : List α) : Store := match r with
  | none => s
  | some (b, _, sp) => s.set b (.cells (flat l ++ sp))
def RowOK (s : Store) (r : RowP) (l : List α) : Prop := match r with
  | none => l = []
  | some (b, cap, sp) => s b = none ∧ 0 < cap ∧ l.length ≤ cap ∧ (flat l ++ sp).length = cap * Enc.w α ∧ views sp = sp
theorem rowS_sub {s : Store} {r : RowP} {l : List α} (h : RowOK s r l) : Sub s (rowS s r l) := by
  cases r with
  | none => exact Sub.refl s
  | some x => exact (Sub.refl s).set h.1
theorem rowS_get {s : Store} {r : RowP} {l : List α} (h : RowOK s r l) {b : Nat} {o : SO} (hb : s b = some o) : rowS s r l b = some o := rowS_sub h b o hb
theorem row_len {s : Store} {r : RowP} {l : List α} (h : RowOK s r l) : lenV s 0 (rowA r l.length) = .tot (.int .i64 l.length) := by
  cases r with
  | none => rw [show l = [] from h]; rfl
  | some x => rfl
theorem app_row {σ : St} {d : Option Nat} {K : St → Prop} {sz by' : Nat} {s : Store} {r : RowP} {l : List α} {z v : α} (hσ : σ.s = rowS s r l) (h : RowOK s r l) (hz : sz = Enc.w α) (hr : (l.length + 1) * by' ≤ room)
    (hK : ∀ s' r', Sub s s' → RowOK s' r' (l ++ [v]) → K ({ σ with s := rowS s' r' (l ++ [v]) }.put d (rowA r' (l.length + 1)))) :
    appendAW sz by' (Enc.cells z) σ d K (rowA r l.length) (some (1, Enc.cells v)) := by
  subst hz
  have hcz : (Enc.cells z).length = Enc.w α := Enc.len z
  have hcv : flat [v] = Enc.cells v := by unfold flat; simp
  have hvz : views (Enc.cells z) = Enc.cells z := Enc.vw z
  have fresh : ∀ (s' : Store) (b' cap' : Nat), s' b' = none → l.length + 1 ≤ cap' → RowOK s' (some (b', cap', flat (List.replicate (cap' - (l.length + 1)) z))) (l ++ [v]) := fun s' b' cap' hb hc => by
    refine ⟨hb, by omega, by simpa using hc, ?_, flat_views _⟩
    rw [List.length_append, flat_len, flat_len, List.length_replicate, List.length_append, ← Nat.add_mul]
    congr 1
    simp; omega
  cases r with
  | none =>
    obtain rfl : l = [] := h
    show appendAW (Enc.w α) by' (Enc.cells z) σ d K (.arr 0 0 0 0) _
    refine appendAW_new hcz (olds := []) rfl (by simp) hr fun b' cap' hb' hc => ?_
    rw [List.nil_append, ← flat_rep, ← hcv]
    rw [hσ] at hb' ⊢
    have := hK s (some (b', cap', flat (List.replicate (cap' - (0 + 1)) z))) (Sub.refl s) (fresh s b' cap' hb' hc)
    exact this
  | some x =>
    obtain ⟨b, cap, sp⟩ := x
    obtain ⟨h1, h2, h3, h4, h5⟩ := h
    have hs : σ.s b = some (.cells (flat l ++ sp)) := by rw [hσ]; exact set_at
    show appendAW (Enc.w α) by' (Enc.cells z) σ d K (.arr b 0 l.length cap) _
    by_cases hc : l.length + 1 ≤ cap
    · refine appendAW_in hcz hs (by rw [h4, Nat.zero_add]; exact Nat.le_refl _) hc ?_
      have hsp : [v].length * Enc.w α ≤ sp.length := by
        rw [List.length_append, flat_len] at h4
        have : (l.length + 1) * Enc.w α ≤ cap * Enc.w α := Nat.mul_le_mul_right _ hc
        rw [Nat.add_mul, Nat.one_mul] at this
        simp; omega
      have st := row_room l [v] sp (Enc.w α) rfl hsp
      rw [Nat.zero_add, ← hcv, st]
      have e : σ.s.set b (.cells (flat (l ++ [v]) ++ sp.drop ([v].length * Enc.w α))) = rowS s (some (b, cap, sp.drop ([v].length * Enc.w α))) (l ++ [v]) := by
        rw [hσ]
        show (s.set b _).set b _ = s.set b _
        exact set_set ..
      rw [e]
      refine hK s _ (Sub.refl s) ⟨h1, h2, by simpa using hc, ?_, ?_⟩
      · rw [List.length_append, flat_len] at h4 ⊢
        rw [List.length_drop, List.length_append, Nat.add_mul]
        omega
      · unfold views at h5 ⊢
        rw [List.map_drop, h5]
    · refine appendAW_new hcz (oldsV_arr hs (by
        rw [Nat.zero_add, h4]; exact Nat.mul_le_mul_right _ h3)) (by omega) hr fun b' cap' hb' hc' => ?_
      have ho : views (AB.sub (flat l ++ sp) 0 (l.length * Enc.w α)) = flat l := by
        have := row_sub l sp (Enc.w α) 0 l.length rfl (by omega)
        rw [Nat.zero_mul] at this
        rw [this, List.drop_zero, List.take_length, flat_views]
      rw [ho, ← flat_rep, ← hcv, ← flat_append]
      rw [hσ] at hb' ⊢
      have hb0 : (s.set b (.cells (flat l ++ sp))) b' = none := hb'
      exact hK (s.set b (.cells (flat l ++ sp))) (some (b', cap', flat (List.replicate (cap' - (l.length + 1)) z))) ((Sub.refl s).set h1) (fresh _ b' cap' hb0 hc')
theorem row_at {s : Store} {r : RowP} {l : List α} (h : RowOK s r l) (hl : 0 < l.length) : ∃ b cap sp, r = some (b, cap, sp) := by
  cases r with
  | none => rw [show l = [] from h] at hl; simp at hl
  | some x => exact ⟨_, _, _, rfl⟩
theorem row_upd {s : Store} {b cap : Nat} {sp : List AV} {l l' : List α} (h : RowOK s (some (b, cap, sp)) l) (hl : l'.length = l.length) : RowOK s (some (b, cap, sp)) l' := by
  obtain ⟨h1, h2, h3, h4, h5⟩ := h
  exact ⟨h1, h2, by omega, by rw [List.length_append, flat_len] at h4 ⊢; rw [hl]; exact h4, h5⟩
theorem frz_row {σ : St} {d : Option Nat} {K : St → Prop} {sz : Nat} {s : Store} {r : RowP} {l : List α} (hσ : σ.s = rowS s r l) (h : RowOK s r l) (hz : sz = Enc.w α)
    (hK : K ({ σ with s := s }.put d (.sl true sz l.length (flat l)))) : frzW sz true σ d K (rowA r l.length) := by
  subst hz
  cases r with
  | none =>
    obtain rfl : l = [] := h
    show frzW (Enc.w α) true σ d K (.arr 0 0 0 0)
    refine .inl ⟨rfl, rfl, rfl, ?_⟩
    have e : { σ with s := s } = σ := by
      have : σ.s = s := hσ
      rw [← this]
    rw [e] at hK
    exact hK
  | some x =>
    obtain ⟨b, cap, sp⟩ := x
    obtain ⟨h1, h2, h3, h4, h5⟩ := h
    have hs : σ.s b = some (.cells (flat l ++ sp)) := by rw [hσ]; exact set_at
    show frzW (Enc.w α) true σ d K (.arr b 0 l.length cap)
    refine .inr ⟨h2, h3, fun _ => ⟨rfl, ?_, ?_⟩, ?_⟩
    · rw [hs]; show 0 + cap * Enc.w α ≤ _; rw [h4]; omega
    · rw [hs]; show _ = 0 + cap * Enc.w α; rw [h4]; omega
    · have ho : views (AB.sub (flat l ++ sp) 0 (l.length * Enc.w α)) = flat l := by
        have := row_sub l sp (Enc.w α) 0 l.length rfl (by omega)
        rw [Nat.zero_mul] at this
        rw [this, List.drop_zero, List.take_length, flat_views]
      rw [hs]
      show frzW.frzK _ _ σ d K b l.length (bif decide (0 + l.length * Enc.w α ≤ (flat l ++ sp).length) then some (l.length, views (AB.sub (flat l ++ sp) 0 (l.length * Enc.w α))) else none)
      rw [decide_eq_true (by rw [Nat.zero_add, h4]; exact Nat.mul_le_mul_right _ h3), ho]
      have e : σ.s.del b = s := by
        rw [hσ]
        exact del_set h1
      show K ({ σ with s := σ.s.del b }.put d (.sl true _ l.length (flat l)))
      rw [e]; exact hK
end
end Go.AB
end
