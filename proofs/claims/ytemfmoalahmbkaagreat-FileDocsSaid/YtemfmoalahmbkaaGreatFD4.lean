/- A part of the proof: Ab23, Ty1, Ty2, Ty3, Mix2, Pure1, Na, Nd, At, Ab24, Ab25, Row, Row2, Lx, Ps. -/
import Derived.Test.YtemfmoalahmbkaaGreatFD3
import Derived.ProofKit
import Derived.Test.YtemfmoalahmbkaaGreatFD1
import Derived.Test.YtemfmoalahmbkaaGreatProg
import Derived.KernelRfl
import Derived.Laws.RangeAny
import Derived.LoopTactic
import Derived.Lib.Bytealg
import Derived.Laws.Externs
import Derived.Lib.Walk
set_option linter.unusedSimpArgs false
set_option linter.unusedVariables false
section
namespace Go.AB
open Go Go.RowKit
def rowsOf (w : World) (b : Nat) : Nat := match w.heap[b]? with
  | some (.cells c _ _) => c.size
  | _ => 0
def noStore : Store := fun _ => none
section
variable {P : Program} {w w' : World}
theorem law_calls {f : FuncId} {args : List AV} {vs : Array Value} (hf : FN P f args noStore fun rs _ => rs = [.bool true]) (ha : ArgsR w (rowsOf w) args vs) :
    Calls P f vs w fun e w' => e = .returned (.bool true) ∧ Below w.heap.size w w' := by
  refine (hf ⟨rowsOf w, fun _ => .none⟩ w vs ⟨fun _ _ => rfl, fun b hb => ?_⟩ (fun b => .inl rfl) (fun b o h => by cases h) ha).mono fun e w' ⟨v, rs, s', G', he, hq, _, _, hr, hp⟩ => ?_
  · show rowsOf w b = 0
    unfold rowsOf
    rw [Array.getElem?_eq_none hb]
  · subst hq
    refine ⟨?_, ⟨hp.os, hp.tape, hp.output, hp.size, fun b hb => hp.frame b hb (.inr rfl)⟩⟩
    rw [he]
    have := VR.inv_bool hr.1
    rw [this]
end
end Go.AB
end

section
namespace Go.AB
open Go
theorem views_append (a b : List AV) : views (a ++ b) = views a ++ views b := by simp [views]
theorem views_flatten : ∀ l : List (List AV), (∀ x ∈ l, views x = x) → views l.flatten = l.flatten
  | [], _ => rfl
  | a :: l, h => by rw [List.flatten_cons, views_append, h a List.mem_cons_self, views_flatten l fun x hx => h x (List.mem_cons_of_mem _ hx)]
class Enc (α : Type) where
  w : Nat
  cells : α → List AV
  zero : α
  pos : 0 < w
  len : ∀ x, (cells x).length = w
  vw : ∀ x, views (cells x) = cells x
structure Str where
  b : List UInt8
  deriving DecidableEq, Inhabited
section
variable {α : Type} [Enc α]
def flat (l : List α) : List AV := (l.map Enc.cells).flatten
def ix (l : List α) (i : Int) : α := l.getD i.toNat Enc.zero
theorem flat_len : ∀ l : List α, (flat l).length = l.length * Enc.w α
  | [] => by simp [flat]
  | a :: l => by
    have := flat_len l
    simp only [flat, List.map_cons, List.flatten_cons, List.length_append, Enc.len] at this ⊢
    rw [this, List.length_cons, Nat.add_mul, Nat.one_mul, Nat.add_comm]
@[go_sem] theorem flat_nil : flat ([] : List α) = [] := rfl
@[go_sem] theorem flat_cons (a : α) (l : List α) : flat (a :: l) = Enc.cells a ++ flat l := rfl
@[go_sem] theorem flat_append (a b : List α) : flat (a ++ b) = flat a ++ flat b := by simp [flat]
@[go_sem] theorem flat_views (l : List α) : views (flat l) = flat l := views_flatten _ fun x hx => by
  obtain ⟨y, _, rfl⟩ := List.mem_map.1 hx
  exact Enc.vw y
theorem flat_drop (l : List α) : ∀ k, (flat l).drop (k * Enc.w α) = flat (l.drop k) := by
  induction l with
  | nil => intro k; simp [flat]
  | cons a l ih => intro k; cases k with
    | zero => simp
    | succ k =>
      rw [flat_cons, List.drop_succ_cons, ← ih k, Nat.succ_mul, Nat.add_comm, ← List.drop_drop]
      congr 1
      rw [← Enc.len a, List.drop_left]
theorem flat_take (l : List α) : ∀ k, (flat l).take (k * Enc.w α) = flat (l.take k) := by
  induction l with
  | nil => intro k; simp [flat]
  | cons a l ih => intro k; cases k with
    | zero => simp [flat_nil]
    | succ k =>
      rw [flat_cons, List.take_succ_cons, flat_cons, ← ih k, Nat.succ_mul, Nat.add_comm, List.take_append]
      rw [Enc.len a, List.take_of_length_le (by rw [Enc.len]; omega)]
      congr 2
      omega
theorem flat_sub (l : List α) (n lo m : Nat) (hn : n = Enc.w α) : AB.sub (flat l) (lo * n) (m * n) = flat ((l.drop lo).take m) := by
  subst hn
  unfold AB.sub
  rw [flat_drop, flat_take]
theorem flat_pad (z : List AV) (n : Nat) (l : List α) (i : Int) (hz : z = Enc.cells (Enc.zero : α)) (hn : n = Enc.w α) : pad z (views (AB.sub (flat l) (i.toNat * n) n)) = Enc.cells (ix l i) := by
  subst hn
  have h1 : AB.sub (flat l) (i.toNat * Enc.w α) (Enc.w α) = flat ((l.drop i.toNat).take 1) := by
    have := flat_sub l (Enc.w α) i.toNat 1 rfl
    rwa [Nat.one_mul] at this
  rw [h1, flat_views]
  unfold pad ix
  rcases Nat.lt_or_ge i.toNat l.length with hlt | hge
  · rw [List.drop_eq_getElem_cons hlt, List.take_succ_cons, List.take_zero, flat_cons, flat_nil, List.append_nil, hz, Enc.len, Enc.len, beq_self_eq_true]
    simp [List.getD, List.getElem?_eq_getElem hlt]
  · rw [List.drop_eq_nil_of_le hge, List.take_nil, flat_nil, hz, Enc.len]
    have : (([] : List AV).length == Enc.w α) = false := by
      have := Enc.pos (α := α)
      simp; omega
    rw [this]
    simp [List.getD, List.getElem?_eq_none hge]
def part (l : List α) (lo hi : Int) : List α := (l.drop lo.toNat).take (hi - lo).toNat
theorem flat_part (n : Nat) (l : List α) (lo hi : Int) (hn : n = Enc.w α) : AB.sub (flat l) (lo.toNat * n) ((hi - lo).toNat * n) = flat (part l lo hi) := flat_sub l n _ _ hn
theorem flat_div (n : Nat) (l : List α) (hn : n = Enc.w α) : (flat l).length / n = l.length := by
  subst hn
  rw [flat_len]; exact Nat.mul_div_cancel _ Enc.pos
end
instance : Enc Bool := ⟨1, fun b => [.bool b], false, Nat.one_pos, fun _ => rfl, fun _ => rfl⟩
instance : Enc Int := ⟨1, fun n => [.int .i64 n], 0, Nat.one_pos, fun _ => rfl, fun _ => rfl⟩
instance : Enc UInt8 := ⟨1, fun n => [.int .u8 n.toNat], 0, Nat.one_pos, fun _ => rfl, fun _ => rfl⟩
instance : Enc UInt32 := ⟨1, fun n => [.int .u32 n.toNat], 0, Nat.one_pos, fun _ => rfl, fun _ => rfl⟩
instance : Enc UInt64 := ⟨1, fun n => [.int .u64 n.toNat], 0, Nat.one_pos, fun _ => rfl, fun _ => rfl⟩
instance : Enc Str := ⟨1, fun s => [.str s.b], ⟨[]⟩, Nat.one_pos, fun _ => rfl, fun _ => rfl⟩
instance {α : Type} [Enc α] : Enc (List α) := ⟨1, fun l => [.sl false (Enc.w α) l.length (flat l)], [], Nat.one_pos, fun _ => rfl, fun _ => rfl⟩
@[go_sem] theorem cells_bool (x : Bool) : Enc.cells x = [.bool x] := rfl
@[go_sem] theorem cells_int (x : Int) : Enc.cells x = [.int .i64 x] := rfl
@[go_sem] theorem cells_u8 (x : UInt8) : Enc.cells x = [.int .u8 x.toNat] := rfl
@[go_sem] theorem cells_u32 (x : UInt32) : Enc.cells x = [.int .u32 x.toNat] := rfl
@[go_sem] theorem cells_u64 (x : UInt64) : Enc.cells x = [.int .u64 x.toNat] := rfl
@[go_sem] theorem cells_str (x : Str) : Enc.cells x = [.str x.b] := rfl
@[go_sem] theorem cells_list {α : Type} [Enc α] (x : List α) : Enc.cells x = [.sl false (Enc.w α) x.length (flat x)] := rfl
@[go_sem] theorem w_bool : Enc.w Bool = 1 := rfl
@[go_sem] theorem w_int : Enc.w Int = 1 := rfl
@[go_sem] theorem w_u8 : Enc.w UInt8 = 1 := rfl
@[go_sem] theorem w_u32 : Enc.w UInt32 = 1 := rfl
@[go_sem] theorem w_u64 : Enc.w UInt64 = 1 := rfl
@[go_sem] theorem w_str : Enc.w Str = 1 := rfl
@[go_sem] theorem w_list {α : Type} [Enc α] : Enc.w (List α) = 1 := rfl
@[go_sem] theorem pad_bool (l : List Bool) (i : Int) : pad [.bool false] (views (AB.sub (flat l) (i.toNat * 1) 1)) = [.bool (ix l i)] := flat_pad _ 1 l i rfl rfl
@[go_sem] theorem pad_int (l : List Int) (i : Int) : pad [.int .i64 0] (views (AB.sub (flat l) (i.toNat * 1) 1)) = [.int .i64 (ix l i)] := flat_pad _ 1 l i rfl rfl
@[go_sem] theorem pad_u8 (l : List UInt8) (i : Int) : pad [.int .u8 0] (views (AB.sub (flat l) (i.toNat * 1) 1)) = [.int .u8 (ix l i).toNat] := flat_pad _ 1 l i rfl rfl
@[go_sem] theorem pad_u32 (l : List UInt32) (i : Int) : pad [.int .u32 0] (views (AB.sub (flat l) (i.toNat * 1) 1)) = [.int .u32 (ix l i).toNat] := flat_pad _ 1 l i rfl rfl
@[go_sem] theorem pad_str (l : List Str) (i : Int) : pad [.str []] (views (AB.sub (flat l) (i.toNat * 1) 1)) = [.str (ix l i).b] := flat_pad _ 1 l i rfl rfl
@[go_sem] theorem pad_list {α : Type} [Enc α] (l : List (List α)) (i : Int) (n : Nat) (hn : n = Enc.w α) : pad [.sl false n 0 []] (views (AB.sub (flat l) (i.toNat * 1) 1)) = [.sl false (Enc.w α) (ix l i).length (flat (ix l i))] := by
  subst hn
  exact flat_pad _ 1 l i rfl rfl
end Go.AB
end

section
namespace Go.AB
open Go
def ok {α : Type} (o : Option α) (K : α → Prop) : Prop := ∃ a, o = some a ∧ K a
def need {α : Type} (c : Prop) [Decidable c] (o : Option α) : Option α := if c then o else none
def whenB {α : Type} (g : Bool) (z : α) (o : Option α) : Option α := bif g then o else some z
def bnd {α β : Type} (o : Option α) (f : α → Option β) : Option β := match o with
  | some a => f a
  | none => none
def iterN {S O : Type} (body : S → Option (S ⊕ O)) : Nat → S → Option O
  | 0, _ => none
  | n + 1, s => match body s with
    | none => none
    | some (.inl t) => iterN body n t
    | some (.inr o) => some o
def iter {S O : Type} (body : S → Option (S ⊕ O)) (s : S) : Option O := iterN body 18446744073709551616 s
def caseS {A B C : Type} (f : A → C) (g : B → C) : A ⊕ B → C
  | .inl a => f a
  | .inr b => g b
section
variable {α β : Type} (K : α → Prop)
@[go_sem] theorem ok_some (a : α) : ok (some a) K = K a := by simp [ok]
@[go_sem] theorem ok_none : ok none K = False := by simp [ok]
@[go_sem] theorem ok_need (c : Prop) [Decidable c] (o : Option α) : ok (need c o) K = (c ∧ ok o K) := by
  unfold need
  by_cases h : c <;> simp [h, ok]
@[go_sem] theorem ok_bnd (o : Option β) (f : β → Option α) : ok (bnd o f) K = ok o (fun b => ok (f b) K) := by cases o <;> simp [bnd, ok]
@[go_sem] theorem ok_ite (c : Bool) (a b : Option α) : ok (if c = true then a else b) K = ((c = true → ok a K) ∧ (c = false → ok b K)) := by cases c <;> simp
theorem ok_when (g : Bool) (z : α) (o : Option α) : ok (whenB g z o) K = ∃ a, (g = true → o = some a) ∧ (g = false → a = z) ∧ K a := by
  cases g <;> simp [whenB, ok]
@[go_sem] theorem caseS_l {A B C : Type} (f : A → C) (g : B → C) (a : A) : caseS f g (.inl a) = f a := rfl
@[go_sem] theorem caseS_r {A B C : Type} (f : A → C) (g : B → C) (b : B) : caseS f g (.inr b) = g b := rfl
end
theorem and_to {A B C D : Prop} (h : A → C) (k : B → D) : A ∧ B → C ∧ D := fun x => ⟨h x.1, k x.2⟩
theorem im_to {p A B : Prop} (h : A → B) : (p → A) → p → B := fun x y => h (x y)
theorem tt_to {A : Prop} : A → A := fun h => h
theorem im_to' {p A B : Prop} (h : p → A → B) : (p → A) → p → B := fun x y => h y (x y)
variable {P : Program}
theorem call_to {β : Type} {o : Option β} {kf : β → Prop} {f : FuncId} {as1 : List AV} {s : Store} {enc : β → List AV} {Q : List AV → Store → Prop}
    (hf : ∀ r, o = some r → FE P f as1 s (enc r) s) (hk : ∀ r, kf r → Q (enc r) s) : ok o kf → FN P f as1 s Q := fun ⟨r, h, k⟩ => FE.app (hf r h) (hk r k)
theorem call_to_q {β : Type} {o : Option β} {kf : β → Prop} {f : FuncId} {as1 : List AV} {s : Store} {enc : β → List AV} {Q : List AV → Prop}
    (hf : ∀ r, o = some r → FE P f as1 s (enc r) s) (hr : ∀ r, rsOK (enc r) = true) (hk : ∀ r, kf r → Q (enc r)) : ok o kf → ∃ rs, rsOK rs = true ∧ FE P f as1 s rs s ∧ Q rs :=
  fun ⟨r, h, k⟩ => ⟨enc r, hr r, hf r h, hk r k⟩
theorem call_to_g {β : Type} {g : Bool} {z : β} {o : Option β} {kf : β → Prop} {f : FuncId} {as1 : Option (List AV)} {as2 : List AV} {s : Store} {enc : β → List AV} {Q : List AV → Prop}
    (ha : as1 = some as2) (hf : ∀ r, o = some r → FE P f as2 s (enc r) s) (hr : ∀ r, rsOK (enc r) = true) (hk : ∀ r, kf r → Q (enc r)) :
    ok (whenB g z o) kf → ∃ rs, rsOK rs = true ∧ (g = true → ∃ as2, as1 = some as2 ∧ FE P f as2 s rs s) ∧ Q rs := fun h => by
  rw [ok_when] at h
  obtain ⟨r, h1, _, k⟩ := h
  exact ⟨enc r, hr r, fun hg => ⟨as2, ha, hf r (h1 hg)⟩, hk r k⟩
def okj {α : Type} (o : Option α) (K : α → Prop) : Prop := ok o K
def jn {α β : Type} (o : Option α) (f : α → Option β) : Option β := bnd o f
@[go_sem] theorem ok_jn {α β : Type} (K : α → Prop) (o : Option β) (f : β → Option α) : ok (jn o f) K = okj o (fun b => ok (f b) K) := ok_bnd ..
theorem join_to {X : Type} {M : Option X} {kf : X → Prop} {live : List (Nat × Bool)} {a b : IC} {Q : Exit → St → Prop} {σ : St} (enc : X → St)
    (ha : ∀ J : St → Prop, ok M (fun x => J (enc x)) → cwp P a (joinK live J Q) σ) (hb : ∀ x, kf x → cwp P b Q (enc x)) : okj M kf → cwp P (.join live a b) Q σ := fun ⟨x, h, k⟩ =>
  ⟨fun τ => ∃ x, τ = enc x ∧ kf x, ha _ ⟨x, h, x, rfl, k⟩, fun _ ⟨x, e, k⟩ => e ▸ hb x k⟩
theorem iterN_zero {S O : Type} {body : S → Option (S ⊕ O)} {s : S} {K : O → Prop} : ¬ ok (iterN body 0 s) K := fun ⟨_, h, _⟩ => by cases h
theorem iterN_succ {S O : Type} {body : S → Option (S ⊕ O)} {n : Nat} {s : S} {K : O → Prop} (h : ok (iterN body (n + 1) s) K) : ok (body s) (caseS (fun t => ok (iterN body n t) K) K) := by
  obtain ⟨o, h, k⟩ := h
  unfold iterN at h
  cases hb : body s with
  | none => rw [hb] at h; cases h
  | some x =>
    rw [hb] at h
    cases x with
    | inl t => exact ⟨_, rfl, ⟨o, h, k⟩⟩
    | inr o' => cases h; exact ⟨_, rfl, k⟩
theorem loopK_join {live : List (Nat × Bool)} {I : St → Prop} {μ : St → Nat} {m : Nat} {Q : Exit → St → Prop} : loopK live I μ m Q = joinK live (fun ρ => I ρ ∧ μ ρ < m) Q := by
  funext x ρ; cases x <;> rfl
theorem iter_to {S O : Type} {body : S → Option (S ⊕ O)} {s0 : S} {kf : O → Prop} {live : List (Nat × Bool)} {b : IC} {Q : Exit → St → Prop} {σ : St} (enc : S → St)
    (h0 : σ.keepV live = enc s0)
    (hb : ∀ (J : St → Prop) (s : S), ok (body s) (caseS (fun t => J (enc t)) kf) → cwp P b (joinK live J Q) (enc s)) : ok (iter body s0) kf → cwp P (.loop live b) Q σ := by
  intro h
  have hmin : ∀ τ, (∃ m s, τ = enc s ∧ ok (iterN body m s) kf) → ∃ m, (∃ s, τ = enc s ∧ ok (iterN body m s) kf) ∧ ∀ k, k < m → ¬ ∃ s, τ = enc s ∧ ok (iterN body k s) kf := by
    rintro τ ⟨m, s, h⟩
    induction m using Nat.strongRecOn generalizing s with
    | _ m ih =>
      by_cases hk : ∃ k, k < m ∧ ∃ s, τ = enc s ∧ ok (iterN body k s) kf
      · obtain ⟨k, hk, s', h'⟩ := hk
        exact ih k hk s' h'
      · exact ⟨m, ⟨s, h⟩, fun k hk' hs => hk ⟨k, hk', hs⟩⟩
  have hμ : ∃ μ : St → Nat, ∀ τ, (∃ m s, τ = enc s ∧ ok (iterN body m s) kf) → (∃ s, τ = enc s ∧ ok (iterN body (μ τ) s) kf) ∧ ∀ k, k < μ τ → ¬ ∃ s, τ = enc s ∧ ok (iterN body k s) kf := by
    exact ⟨fun τ => Classical.epsilon fun m => (∃ s, τ = enc s ∧ ok (iterN body m s) kf) ∧ ∀ k, k < m → ¬ ∃ s, τ = enc s ∧ ok (iterN body k s) kf, fun τ hτ => Classical.epsilon_spec (hmin τ hτ)⟩
  obtain ⟨μ, hμ⟩ := hμ
  refine ⟨fun τ => ∃ m s, τ = enc s ∧ ok (iterN body m s) kf, μ, ?_, ?_⟩
  · exact ⟨_, s0, h0, h⟩
  · intro τ hτ
    obtain ⟨⟨s, e, hs⟩, _⟩ := hμ τ hτ
    generalize hm : μ τ = m at hs
    cases m with
    | zero => exact (iterN_zero hs).elim
    | succ m =>
      subst e
      rw [loopK_join]
      obtain ⟨x, hx, k⟩ := iterN_succ hs
      refine hb _ s ⟨x, hx, ?_⟩
      cases x with
      | inr o => exact k
      | inl t =>
        refine ⟨⟨m, t, rfl, k⟩, ?_⟩
        have h2 := (hμ (enc t) ⟨m, t, rfl, k⟩).2
        rcases Nat.lt_or_ge m (μ (enc t)) with hlt | hge
        · exact (h2 m hlt ⟨t, rfl, k⟩).elim
        · omega
theorem jump_to {S O : Type} {body : S → Option (S ⊕ O)} {s0 : S} {kf : O → Prop} {live : List (Nat × Bool)} {l : Nat} {r : IC} {Q : Exit → St → Prop} {σ : St} (enc : S → St)
    (h0 : σ = enc s0)
    (hb : ∀ (J : St → Prop) (s : S), ok (body s) (caseS (fun t => J (enc t)) kf) → cwp P r (jmpK l live J Q) (enc s)) : ok (iter body s0) kf → jlp P l live r Q σ := by
  intro h
  have hmin : ∀ τ, (∃ m s, τ = enc s ∧ ok (iterN body m s) kf) → ∃ m, (∃ s, τ = enc s ∧ ok (iterN body m s) kf) ∧ ∀ k, k < m → ¬ ∃ s, τ = enc s ∧ ok (iterN body k s) kf := by
    rintro τ ⟨m, s, h⟩
    induction m using Nat.strongRecOn generalizing s with
    | _ m ih =>
      by_cases hk : ∃ k, k < m ∧ ∃ s, τ = enc s ∧ ok (iterN body k s) kf
      · obtain ⟨k, hk, s', h'⟩ := hk
        exact ih k hk s' h'
      · exact ⟨m, ⟨s, h⟩, fun k hk' hs => hk ⟨k, hk', hs⟩⟩
  have hμ : ∃ μ : St → Nat, ∀ τ, (∃ m s, τ = enc s ∧ ok (iterN body m s) kf) → (∃ s, τ = enc s ∧ ok (iterN body (μ τ) s) kf) ∧ ∀ k, k < μ τ → ¬ ∃ s, τ = enc s ∧ ok (iterN body k s) kf := by
    exact ⟨fun τ => Classical.epsilon fun m => (∃ s, τ = enc s ∧ ok (iterN body m s) kf) ∧ ∀ k, k < m → ¬ ∃ s, τ = enc s ∧ ok (iterN body k s) kf, fun τ hτ => Classical.epsilon_spec (hmin τ hτ)⟩
  obtain ⟨μ, hμ⟩ := hμ
  refine ⟨fun τ => ∃ m s, τ = enc s ∧ ok (iterN body m s) kf, μ, ?_, ?_⟩
  · exact ⟨_, s0, h0, h⟩
  · intro τ hτ
    obtain ⟨⟨s, e, hs⟩, _⟩ := hμ τ hτ
    generalize hm : μ τ = m at hs
    cases m with
    | zero => exact (iterN_zero hs).elim
    | succ m =>
      subst e
      obtain ⟨x, hx, k⟩ := iterN_succ hs
      refine hb _ s ⟨x, hx, ?_⟩
      cases x with
      | inr o => exact k
      | inl t =>
        refine ⟨⟨m, t, rfl, k⟩, ?_⟩
        have h2 := (hμ (enc t) ⟨m, t, rfl, k⟩).2
        rcases Nat.lt_or_ge m (μ (enc t)) with hlt | hge
        · exact (h2 m hlt ⟨t, rfl, k⟩).elim
        · omega
def bndS {X Y α : Type} (M : Option (X ⊕ Y)) (F : X → Option α) (G : Y → Option α) : Option α := match M with
  | some (.inl x) => F x
  | some (.inr y) => G y
  | none => none
@[go_sem] theorem ok_bndS {X Y α : Type} (M : Option (X ⊕ Y)) (F : X → Option α) (G : Y → Option α) (K : α → Prop) : ok (bndS M F G) K = ok M (caseS (fun x => ok (F x) K) (fun y => ok (G y) K)) := by
  cases M with
  | none => simp [bndS, ok]
  | some x => cases x <;> simp [bndS, ok, caseS]
def jnS {X Y α : Type} (M : Option (X ⊕ Y)) (F : X → Option α) (G : Y → Option α) : Option α := bndS M F G
@[go_sem] theorem ok_jnS {X Y α : Type} (M : Option (X ⊕ Y)) (F : X → Option α) (G : Y → Option α) (K : α → Prop) : ok (jnS M F G) K = okj M (caseS (fun x => ok (F x) K) (fun y => ok (G y) K)) := ok_bndS ..
theorem join_toS {X Y : Type} {M : Option (X ⊕ Y)} {kf : X → Prop} {kr : Y → Prop} {live : List (Nat × Bool)} {a b : IC} {Q : Exit → St → Prop} {σ : St} (enc : X → St)
    (ha : ∀ J : St → Prop, ok M (caseS (fun x => J (enc x)) kr) → cwp P a (joinK live J Q) σ) (hb : ∀ x, kf x → cwp P b Q (enc x)) : okj M (caseS kf kr) → cwp P (.join live a b) Q σ := fun ⟨x, h, k⟩ => by
  refine ⟨fun τ => ∃ x, τ = enc x ∧ kf x, ha _ ⟨x, h, ?_⟩, fun _ ⟨x, e, k⟩ => e ▸ hb x k⟩
  cases x with
  | inl x => exact ⟨x, rfl, k⟩
  | inr y => exact k
def appO {α : Type} : Option (List α) → Option (List α) → Option (List α)
  | some a, some b => some (a ++ b)
  | _, _ => none
@[go_sem] theorem appO_some {α : Type} (a b : List α) : appO (some a) (some b) = some (a ++ b) := rfl
@[go_sem] theorem byteOf_u8 (c : UInt8) : byteOf (.int .u8 c.toNat) = some c := by
  unfold byteOf
  have := c.toNat_lt
  simp only [Int.natCast_nonneg, true_and, Int.toNat_natCast]
  rw [if_pos (by omega)]
  simp
@[go_sem] theorem bytesOf_nil : bytesOf [] = some [] := rfl
@[go_sem] theorem bytesOf_cons (a : AV) (l : List AV) : bytesOf (a :: l) = consO (byteOf a) (bytesOf l) := rfl
@[go_sem] theorem bytesOf_append (a : List AV) : ∀ b, bytesOf (a ++ b) = appO (bytesOf a) (bytesOf b) := by
  induction a with
  | nil => intro b; cases h : bytesOf b <;> simp [bytesOf, appO, h]
  | cons x a ih =>
    intro b
    rw [List.cons_append, bytesOf_cons, bytesOf_cons, ih b]
    cases byteOf x <;> cases bytesOf a <;> cases bytesOf b <;> rfl
@[go_sem] theorem bytesOf_flat : ∀ l : List UInt8, bytesOf (flat l) = some l
  | [] => rfl
  | c :: l => by
    rw [flat_cons]
    show consO (byteOf (.int .u8 c.toNat)) (bytesOf (flat l)) = _
    rw [byteOf_u8, bytesOf_flat l]; rfl
@[go_sem] theorem map_flat (l : List UInt8) : (l.map fun c => AV.int .u8 c.toNat) = flat l := by
  induction l with
  | nil => rfl
  | cons a l ih => rw [List.map_cons, ih]; rfl
def w64 (n : Int) : Int := IntKind.i64.wrap n
def u8w (n : Int) : UInt8 := UInt8.ofNat (IntKind.u8.wrap n).toNat
def u32w (n : Int) : UInt32 := UInt32.ofNat (IntKind.u32.wrap n).toNat
def u64w (n : Int) : UInt64 := UInt64.ofNat (IntKind.u64.wrap n).toNat
@[go_sem] theorem wrap_w64 (n : Int) : wrapI .i64 n = w64 n := rfl
theorem wrapU (k : IntKind) (n : Int) (hk : k.signed = false) : k.wrap n = n % (2 ^ k.bits : Int) := by
  unfold IntKind.wrap
  simp [hk]
@[go_sem] theorem wrap_u8 (n : Int) : wrapI .u8 n = (u8w n).toNat := by
  show IntKind.u8.wrap n = ((UInt8.ofNat (IntKind.u8.wrap n).toNat).toNat : Int)
  rw [wrapU _ _ rfl, UInt8.toNat_ofNat']
  have : (2 ^ IntKind.u8.bits : Int) = 256 := by decide
  rw [this]
  omega
@[go_sem] theorem wrap_u32 (n : Int) : wrapI .u32 n = (u32w n).toNat := by
  show IntKind.u32.wrap n = ((UInt32.ofNat (IntKind.u32.wrap n).toNat).toNat : Int)
  rw [wrapU _ _ rfl, UInt32.toNat_ofNat']
  have : (2 ^ IntKind.u32.bits : Int) = 4294967296 := by decide
  rw [this]
  omega
@[go_sem] theorem wrap_u64 (n : Int) : wrapI .u64 n = (u64w n).toNat := by
  show IntKind.u64.wrap n = ((UInt64.ofNat (IntKind.u64.wrap n).toNat).toNat : Int)
  rw [wrapU _ _ rfl, UInt64.toNat_ofNat']
  have : (2 ^ IntKind.u64.bits : Int) = 18446744073709551616 := by decide
  rw [this]
  omega
def shlI (k : IntKind) (a b : Int) : Int := a * 2 ^ (min b.toNat k.bits)
def shrI (k : IntKind) (a b : Int) : Int := a.fdiv (2 ^ (min b.toNat k.bits))
def andI (k : IntKind) (a b : Int) : Int := (BitVec.ofInt k.bits a &&& BitVec.ofInt k.bits b).toNat
def orI (k : IntKind) (a b : Int) : Int := (BitVec.ofInt k.bits a ||| BitVec.ofInt k.bits b).toNat
def xorI (k : IntKind) (a b : Int) : Int := (BitVec.ofInt k.bits a ^^^ BitVec.ofInt k.bits b).toNat
def andNotI (k : IntKind) (a b : Int) : Int := (BitVec.ofInt k.bits a &&& ~~~BitVec.ofInt k.bits b).toNat
theorem shl_eq (k : IntKind) (a b : Int) : a * 2 ^ (min b.toNat k.bits) = shlI k a b := rfl
@[go_sem] theorem binI_shl (k k' : IntKind) (a b : Int) : binI .shl k k' a b = .prt (0 ≤ b) (.int k (wrapI k (shlI k a b))) := rfl
@[go_sem] theorem binI_shr (k k' : IntKind) (a b : Int) : binI .shr k k' a b = .prt (0 ≤ b) (.int k (shrI k a b)) := rfl
@[go_sem] theorem binI_and (k k' : IntKind) (a b : Int) : binI .and k k' a b = kk k k' (.tot (.int k (wrapI k (andI k a b)))) := rfl
@[go_sem] theorem binI_or (k k' : IntKind) (a b : Int) : binI .or k k' a b = kk k k' (.tot (.int k (wrapI k (orI k a b)))) := rfl
@[go_sem] theorem binI_xor (k k' : IntKind) (a b : Int) : binI .xor k k' a b = kk k k' (.tot (.int k (wrapI k (xorI k a b)))) := rfl
@[go_sem] theorem binI_andNot (k k' : IntKind) (a b : Int) : binI .andNot k k' a b = kk k k' (.tot (.int k (wrapI k (andNotI k a b)))) := rfl
@[go_sem] theorem lit_nonneg (n : Nat) : ((0 : Int) ≤ @OfNat.ofNat Int n instOfNat) = True := eq_true (Int.natCast_nonneg n)
@[go_sem] theorem lit_ne (n : Nat) : ((@OfNat.ofNat Int (n + 1) instOfNat) ≠ 0) = True := eq_true (by show ((n + 1 : Nat) : Int) ≠ 0; omega)
@[go_sem] theorem getD_ix (l : List UInt8) (k : Int) : l.getD k.toNat 0 = ix l k := rfl
@[go_sem] theorem part_of (l : List UInt8) (lo hi : Int) : (l.drop lo.toNat).take (hi - lo).toNat = part l lo hi := rfl
attribute [go_sem] List.length_append true_or or_true eq_self_iff_true imp_self Bool.cond_true_left Bool.cond_false_right and_self and_true
def mv (d x : Nat) : IOper := ⟨some d, .mov false (.t x), none⟩
def mt (d x : Nat) : IOper := ⟨some d, .mov true (.t x), none⟩
def mvg (d x t : Nat) (w : Bool) : IOper := ⟨some d, .mov false (.t x), some (t, w)⟩
def mtg (d x t : Nat) (w : Bool) : IOper := ⟨some d, .mov true (.t x), some (t, w)⟩
def i1 (d : Nat) (o : IOp) : IOper := ⟨some d, o, none⟩
def i1g (d t : Nat) (w : Bool) (o : IOp) : IOper := ⟨some d, o, some (t, w)⟩
def i0 (o : IOp) : IOper := ⟨none, o, none⟩
def i0g (t : Nat) (w : Bool) (o : IOp) : IOper := ⟨none, o, some (t, w)⟩
attribute [go_sem] mv mt mvg mtg i1 i1g i0 i0g
@[go_sem] theorem sub_cons (a : AV) (l : List AV) (off n : Nat) : AB.sub (a :: l) off n = ((a :: l).drop off).take n := rfl
attribute [go_sem] flat_part flat_div
@[go_sem] theorem lpReg_when (σ : St) (b : Bool) (a : AV) (d : Option Nat) : lpReg σ (.when b a) d = lpReg σ a d := by
  rw [lpReg]
end Go.AB
end

section
namespace Go.AB
open Go
def SubS (t s : Store) : Prop := ∀ b o, t b = some o → s b = some o
theorem SubS.refl (s : Store) : SubS s s := fun _ _ h => h
theorem SubS.trans {a b c : Store} (h : SubS a b) (k : SubS b c) : SubS a c := fun x o hx => k x o (h x o hx)
theorem SubS.set {t s : Store} {b : Nat} {o : SO} (h : SubS t s) (hb : t b = none) : SubS t (s.set b o) := fun c p hc => by
  unfold Store.set
  by_cases hcb : c = b
  · subst hcb; rw [hb] at hc; cases hc
  · rw [if_neg hcb]; exact h c p hc
theorem SubS.mono {t s : Store} {b : Nat} {o : SO} (h : SubS t s) : SubS (t.set b o) (s.set b o) := fun c p hc => by
  unfold Store.set at hc ⊢
  by_cases hcb : c = b
  · rw [if_pos hcb] at hc ⊢; exact hc
  · rw [if_neg hcb] at hc ⊢; exact h c p hc
variable {P : Program}
theorem FN.forget {f : FuncId} {args : List AV} {s : Store} {Q : List AV → Store → Prop} (h : FN P f args s fun rs t => ∃ t', SubS t' t ∧ Q rs t') : FN P f args s Q := by
  intro G w vs h1 h2 h3 h4
  refine (h G w vs h1 h2 h3 h4).mono fun e w' ⟨v, rs, s', G', a1, ⟨t', ht, hq⟩, a3, a4, a5⟩ => ⟨v, rs, t', G', a1, hq, a3, fun b o hb => a4 b o (ht b o hb), a5⟩
theorem set_same (s : Store) (b : Nat) (o : SO) : (s.set b o) b = some o := by simp [Store.set]
theorem set_ne {s : Store} {b c : Nat} {o : SO} (h : c ≠ b) : (s.set b o) c = s c := by simp [Store.set, h]
theorem set_set (s : Store) (b : Nat) (o p : SO) : (s.set b o).set b p = s.set b p := by
  funext c; unfold Store.set; by_cases h : c = b <;> simp [h]
theorem set_comm {a b : Nat} (h : a ≠ b) {s : Store} {o p : SO} : (s.set b p).set a o = (s.set a o).set b p := by
  funext c; unfold Store.set
  by_cases ha : c = a
  · subst ha; simp [h]
  · simp [ha]
theorem set_eq {s : Store} {b : Nat} {o : SO} (h : s b = some o) : s = s.set b o := by
  funext c; unfold Store.set
  by_cases hc : c = b
  · subst hc; simp [h]
  · simp [hc]
theorem set_eq' {s : Store} {b : Nat} {o : SO} (h : s b = some o) : s.set b o = s := (set_eq h).symm
theorem set_none (s : Store) (b c : Nat) (o : SO) : ((s.set b o) c = none) = (c ≠ b ∧ s c = none) := by
  unfold Store.set
  by_cases hc : c = b <;> simp [hc]
theorem ne_of_none {s : Store} {b c : Nat} {o : SO} (h : s b = some o) (hc : s c = none) : c ≠ b := fun e => by subst e; rw [h] at hc; cases hc
attribute [go_sem] set_same set_set
theorem ok_mono {α : Type} {o : Option α} {K K' : α → Prop} (h : ok o K) (hk : ∀ r, K r → K' r) : ok o K' := h.imp fun r ⟨h1, h2⟩ => ⟨h1, hk r h2⟩
section
variable (Q : Exit → St → Prop) (σ τ : St)
@[go_sem] theorem cwp_scope (b : IC) : cwp P (.scope b) Q σ = cwp P b (scopeK Q) σ := by
  have : (fun x τ => match x with | .goto _ => False | x => Q x τ) = scopeK Q := by
    funext e τ; cases e <;> rfl
  show cwp P b (fun x τ => match x with | .goto _ => False | x => Q x τ) σ = _
  rw [this]
@[go_sem] theorem scopeK_normal : scopeK Q .normal τ = Q .normal τ := rfl
@[go_sem] theorem scopeK_ret : scopeK Q .ret τ = Q .ret τ := rfl
@[go_sem] theorem scopeK_exit (i : Nat) : scopeK Q (.exit i) τ = Q (.exit i) τ := rfl
end
def aindexN (sz len n : Nat) (x : IX) : AV → PR
  | .lp d o => .prt (n + 1 ≤ len) (.lp d (o + n * sz))
  | .sp cs => bif decide (len * sz ≤ cs.length) then .prt (n + 1 ≤ len) (.sp (cs.drop (n * sz))) else .no
  | .ref b o => .prt (n + 1 ≤ len) (.ref b (o + n * sz))
  | .loc _ => locA (n + 1 ≤ len) (n * sz) x
  | _ => .no
theorem aindex_nat (sz len n : Nat) (x : IX) (k : IntKind) (av : AV) : aindexAddrV sz len x av (.int k (n : Int)) = aindexN sz len n x av := by
  have h : (0 ≤ (n : Int) ∧ (n : Int) < (len : Int)) = (n + 1 ≤ len) := by
    apply propext; constructor <;> intro h <;> omega
  cases av <;> first | rfl | simp only [aindexAddrV, aindexN, h, Int.toNat_natCast]
@[go_sem] theorem aindex_lit (sz len n : Nat) (x : IX) (k : IntKind) (av : AV) : aindexAddrV sz len x av (.int k (no_index (OfNat.ofNat n))) = aindexN sz len n x av := aindex_nat sz len n x k av
attribute [go_sem] aindexN.eq_1 aindexN.eq_2 aindexN.eq_3 aindexN.eq_4
structure MSl (α : Type) where
  n : Nat
  l : List α
def updL {α : Type} (l : List α) (i : Int) (x : α) : List α := l.take i.toNat ++ [x] ++ l.drop (i.toNat + 1)
theorem flat_upd {α : Type} [Enc α] (l : List α) (i : Int) (x : α) (n : Nat) (hn : n = Enc.w α) : setAt (flat l) (i.toNat * n) (Enc.cells x) = flat (updL l i x) := by
  subst hn
  unfold setAt updL
  rw [flat_append, flat_append, flat_cons, flat_nil, List.append_nil, flat_take, Enc.len]
  congr 1
  rw [show i.toNat * Enc.w α + Enc.w α = (i.toNat + 1) * Enc.w α from by rw [Nat.add_mul, Nat.one_mul], flat_drop]
@[go_sem] theorem upd_int (l : List Int) (i x : Int) : setAt (flat l) (i.toNat * 1) [.int .i64 x] = flat (updL l i x) := flat_upd l i x 1 rfl
@[go_sem] theorem upd_u8 (l : List UInt8) (i : Int) (x : UInt8) : setAt (flat l) (i.toNat * 1) [.int .u8 x.toNat] = flat (updL l i x) := flat_upd l i x 1 rfl
@[go_sem] theorem upd_u32 (l : List UInt32) (i : Int) (x : UInt32) : setAt (flat l) (i.toNat * 1) [.int .u32 x.toNat] = flat (updL l i x) := flat_upd l i x 1 rfl
@[go_sem] theorem upd_bool (l : List Bool) (i : Int) (x : Bool) : setAt (flat l) (i.toNat * 1) [.bool x] = flat (updL l i x) := flat_upd l i x 1 rfl
@[go_sem] theorem setAt_cons (a : AV) (l : List AV) (off : Nat) (news : List AV) : setAt (a :: l) off news = (a :: l).take off ++ news ++ (a :: l).drop (off + news.length) := rfl
@[go_sem] theorem pad_cons (z : List AV) (a : AV) (l : List AV) : pad z (a :: l) = bif (a :: l).length == z.length then a :: l else z := rfl
@[go_sem] theorem rep_flat {α : Type} [Enc α] (n : Nat) (z : α) : (List.replicate n (Enc.cells z)).flatten = flat (List.replicate n z) := by simp [flat]
section
variable {d d' : Option Nat} {K : St → Prop} {σ : St} {b off : Nat} {news old : List AV}
@[go_sem] theorem stK_wrS : stK d K (wrS σ b (wrCells off news old)) = (off + news.length ≤ old.length ∧ K (({ σ with s := σ.s.set b (.cells (setAt old off news)) } : St).put d (.tup []))) := by
  unfold wrCells
  by_cases h : off + news.length ≤ old.length
  · simp [h, wrS, stK]
  · simp [h, wrS, stK]
@[go_sem] theorem stK_wrL {i : Nat} : stK d K (wrL σ i (wrCells off news old)) = (off + news.length ≤ old.length ∧ K ((σ.put (some i) (.loc (setAt old off news))).put d (.tup []))) := by
  unfold wrCells
  by_cases h : off + news.length ≤ old.length
  · simp [h, wrL, stK]
  · simp [h, wrL, stK]
end
theorem u8_inj (a b : UInt8) : ((a.toNat : Int) = (b.toNat : Int)) = (a = b) := by
  rw [Int.natCast_inj, UInt8.toNat_inj]
@[go_sem] theorem natCast_lit (n : Nat) : (((no_index (OfNat.ofNat n)) : Nat) : Int) = OfNat.ofNat n := rfl
@[go_sem] theorem u8_zero : ((UInt8.toNat 0 : Nat) : Int) = 0 := rfl
@[go_sem] theorem u8_one : ((UInt8.toNat 1 : Nat) : Int) = 1 := rfl
def mfind {κ ν : Type} [BEq κ] (m : List (κ × ν)) (k : κ) : Option ν := match m with
  | [] => none
  | x :: r => bif k == x.1 then some x.2 else mfind r k
def mget {κ ν : Type} [BEq κ] (z : ν) (m : List (κ × ν)) (k : κ) : ν := (mfind m k).getD z
def mhas {κ ν : Type} [BEq κ] (m : List (κ × ν)) (k : κ) : Bool := (mfind m k).isSome
def mput {κ ν : Type} [BEq κ] (m : List (κ × ν)) (k : κ) (v : ν) : List (κ × ν) := match m with
  | [] => [(k, v)]
  | x :: r => bif k == x.1 then (k, v) :: r else x :: mput r k v
def encM {κ ν : Type} (ek : κ → AV) (ev : ν → AV) (m : List (κ × ν)) : List (AV × AV) := m.map fun p => (ek p.1, ev p.2)
theorem keysOK_enc {κ ν : Type} {ek : κ → AV} {ev : ν → AV} {kk : KeyK} (h : ∀ a, keyOK kk (ek a) = true) (m : List (κ × ν)) : keysOK kk (encM ek ev m) = true := by
  unfold keysOK encM
  simp [h]
section
variable {κ ν : Type} [BEq κ] {ek : κ → AV} {ev : ν → AV}
theorem findK_enc (hk : ∀ a b, keyIs (ek a) (ek b) = (a == b)) (m : List (κ × ν)) (k : κ) : findK (ek k) (encM ek ev m) = (mfind m k).map ev := by
  induction m with
  | nil => rfl
  | cons x m ih =>
    show (bif keyIs (ek k) (ek x.1) then some (ev x.2) else findK (ek k) (encM ek ev m)) = _
    rw [hk, ih]
    show _ = (bif k == x.1 then some x.2 else mfind m k).map ev
    cases k == x.1 <;> rfl
theorem putK_enc (hk : ∀ a b, keyIs (ek a) (ek b) = (a == b)) (m : List (κ × ν)) (k : κ) (v : ν) : putK (ek k) (ev v) (encM ek ev m) = encM ek ev (mput m k v) := by
  induction m with
  | nil => rfl
  | cons x m ih =>
    show (bif keyIs (ek k) (ek x.1) then (ek k, ev v) :: encM ek ev m else (ek x.1, ev x.2) :: putK (ek k) (ev v) (encM ek ev m)) = _
    rw [hk, ih]
    show _ = encM ek ev (bif k == x.1 then (k, v) :: m else x :: mput m k v)
    cases k == x.1 <;> rfl
theorem lookupO_enc {kk : KeyK} {z : ν} {za : AV} (h : ∀ a, keyOK kk (ek a) = true) (hk : ∀ a b, keyIs (ek a) (ek b) = (a == b)) (hz : view za = ev z) (hv : ∀ a, view (ev a) = ev a) (hi : ∀ a, isV (ev a) = true) (ok : Bool) (m : List (κ × ν)) (k : κ) :
    lookupO kk za ok (ek k) (some (.map (encM ek ev m))) = .prt True (okV ok (ev (mget z m k)) (mhas m k)) := by
  show ckL ok (keyOK kk (ek k) = true ∧ keysOK kk (encM ek ev m) = true) (lookV za ok (findK (ek k) (encM ek ev m))) = _
  rw [findK_enc hk, h, keysOK_enc h]
  unfold mget mhas
  cases mfind m k with
  | none =>
    show ckL ok _ (okV ok (view za) false) = _
    rw [hz]
    cases ok <;> simp [ckL, plainL, okV, hi]
  | some v =>
    show ckL ok _ (okV ok (view (ev v)) true) = _
    rw [hv]
    cases ok <;> simp [ckL, plainL, okV, hi]
theorem updO_enc {kk : KeyK} {b : Nat} {σ : St} {d : Option Nat} {K : St → Prop} (h : ∀ a, keyOK kk (ek a) = true) (hk : ∀ a b, keyIs (ek a) (ek b) = (a == b)) (hkv : ∀ a, view (ek a) = ek a) (m : List (κ × ν)) (k : κ) (v : ν) (hv : view (ev v) = ev v) (hi : isV (ev v) = true) :
    updO kk b σ (ek k) (ev v) d K (some (.map (encM ek ev m))) = K ({ σ with s := σ.s.set b (.map (encM ek ev (mput m k v))) }.put d (.tup [])) := by
  show ((isV (ev v) = true ∧ keyOK kk (ek k) = true ∧ keysOK kk (encM ek ev m) = true) ∧ K ({ σ with s := σ.s.set b (.map (putK (view (ek k)) (view (ev v)) (encM ek ev m))) }.put d (.tup []))) = _
  rw [hkv, hv, putK_enc hk, h, keysOK_enc h, hi]
  simp
end
theorem keyIs_int (a b : Int) : keyIs (.int .i64 a) (.int .i64 b) = (a == b) := by simp [keyIs, cellsOf, keyEqs, keyEq]
theorem keyIs_str (a b : Str) : keyIs (.str a.b) (.str b.b) = (a == b) := by
  rw [Bool.eq_iff_iff]
  simp only [keyIs, cellsOf, keyEqs, keyEq, Bool.and_true, beq_iff_eq]
  cases a; cases b; simp
attribute [go_sem] mapUpdW.eq_1
@[go_sem] theorem encM_len {κ ν : Type} (ek : κ → AV) (ev : ν → AV) (m : List (κ × ν)) : (encM ek ev m).length = m.length := by simp [encM]
theorem encM_nil {κ ν : Type} (ek : κ → AV) (ev : ν → AV) : encM ek ev [] = [] := rfl
@[go_sem] theorem rep_int (n : Nat) : (List.replicate n [AV.int .i64 0]).flatten = flat (List.replicate n (0 : Int)) := rep_flat n (0 : Int)
@[go_sem] theorem rep_u8 (n : Nat) : (List.replicate n [AV.int .u8 0]).flatten = flat (List.replicate n (0 : UInt8)) := rep_flat n (0 : UInt8)
@[go_sem] theorem rep_u32 (n : Nat) : (List.replicate n [AV.int .u32 0]).flatten = flat (List.replicate n (0 : UInt32)) := rep_flat n (0 : UInt32)
@[go_sem] theorem rep_bool (n : Nat) : (List.replicate n [AV.bool false]).flatten = flat (List.replicate n false) := rep_flat n false
end Go.AB
end

section
namespace Go.AB
open Go
theorem mix : Go.Proofs.Tryz.prog.follows .mixedOrders = true := by kernel_rfl
end Go.AB
end

section
namespace Go.AB
open Go
theorem iterN_inv {S O : Type} {body : S → Option (S ⊕ O)} (I : S → Prop) (μ : S → Nat) (Post : O → Prop)
    (step : ∀ s, I s → ∃ x, body s = some x ∧ (match x with | .inl t => I t ∧ μ t < μ s | .inr o => Post o)) : ∀ (n : Nat) (s : S), I s → μ s < n → ∃ o, iterN body n s = some o ∧ Post o
  | 0, _, _, h => absurd h (Nat.not_lt_zero _)
  | n + 1, s, hi, hn => by
    obtain ⟨x, hx, h⟩ := step s hi
    cases x with
    | inl t =>
      obtain ⟨o, h1, h2⟩ := iterN_inv I μ Post step n t h.1 (by have := h.2; omega)
      exact ⟨o, by unfold iterN; rw [hx]; exact h1, h2⟩
    | inr o => exact ⟨o, by unfold iterN; rw [hx], h⟩
theorem iter_inv {S O : Type} {body : S → Option (S ⊕ O)} {s0 : S} (I : S → Prop) (μ : S → Nat) (Post : O → Prop) (h0 : I s0) (hμ : μ s0 < 18446744073709551616)
    (step : ∀ s, I s → ∃ x, body s = some x ∧ (match x with | .inl t => I t ∧ μ t < μ s | .inr o => Post o)) : ∃ o, iter body s0 = some o ∧ Post o :=
  iterN_inv I μ Post step _ s0 h0 hμ
theorem iter_eq {S O : Type} {body : S → Option (S ⊕ O)} {s0 : S} {o : O} (I : S → Prop) (μ : S → Nat) (h0 : I s0) (hμ : μ s0 < 18446744073709551616)
    (step : ∀ s, I s → (∃ t, body s = some (.inl t) ∧ I t ∧ μ t < μ s) ∨ body s = some (.inr o)) : iter body s0 = some o := by
  obtain ⟨p, h1, h2⟩ := iter_inv I μ (fun p => p = o) h0 hμ fun s hs => by
    rcases step s hs with ⟨t, h1, h2⟩ | h1
    · exact ⟨_, h1, h2⟩
    · exact ⟨_, h1, rfl⟩
  rw [h1, h2]
theorem w64_id {n : Int} (h1 : -9223372036854775808 ≤ n) (h2 : n ≤ 9223372036854775807) : w64 n = n := by
  unfold w64 IntKind.wrap
  have : (2 ^ IntKind.i64.bits : Int) = 18446744073709551616 := by decide
  have h3 : (2 ^ (IntKind.i64.bits - 1) : Int) = 9223372036854775808 := by decide
  rw [this, h3]
  simp only [IntKind.signed, Bool.true_and, decide_eq_true_eq]
  split <;> omega
@[simp] theorem bnd_some {α β : Type} (a : α) (f : α → Option β) : bnd (some a) f = f a := rfl
@[simp] theorem bnd_none {α β : Type} (f : α → Option β) : bnd none f = none := rfl
@[simp] theorem jn_some {α β : Type} (a : α) (f : α → Option β) : jn (some a) f = f a := rfl
@[simp] theorem jn_none {α β : Type} (f : α → Option β) : jn none f = none := rfl
@[simp] theorem bndS_l {X Y α : Type} (x : X) (F : X → Option α) (G : Y → Option α) : bndS (some (.inl x)) F G = F x := rfl
@[simp] theorem bndS_r {X Y α : Type} (y : Y) (F : X → Option α) (G : Y → Option α) : bndS (some (.inr y)) F G = G y := rfl
@[simp] theorem jnS_l {X Y α : Type} (x : X) (F : X → Option α) (G : Y → Option α) : jnS (some (.inl x)) F G = F x := rfl
@[simp] theorem jnS_r {X Y α : Type} (y : Y) (F : X → Option α) (G : Y → Option α) : jnS (some (.inr y)) F G = G y := rfl
@[simp] theorem jn_id {α : Type} (o : Option α) : jn o (fun a => some a) = o := by cases o <;> rfl
@[simp] theorem bnd_id {α : Type} (o : Option α) : bnd o (fun a => some a) = o := by cases o <;> rfl
theorem need_pos {α : Type} {c : Prop} [Decidable c] (h : c) (o : Option α) : need c o = o := if_pos h
@[simp] theorem need_true {α : Type} [Decidable True] (o : Option α) : need True o = o := if_pos trivial
@[simp] theorem whenB_t {α : Type} (z : α) (o : Option α) : whenB true z o = o := rfl
@[simp] theorem whenB_f {α : Type} (z : α) (o : Option α) : whenB false z o = some z := rfl
@[simp] theorem caseS_l' {A B C : Type} (f : A → C) (g : B → C) (a : A) : caseS f g (.inl a) = f a := rfl
@[simp] theorem caseS_r' {A B C : Type} (f : A → C) (g : B → C) (b : B) : caseS f g (.inr b) = g b := rfl
theorem ix_at {α : Type} [Enc α] {l : List α} {i : Int} (h : i.toNat < l.length) : ix l i = l[i.toNat] := by
  unfold ix; rw [List.getD_eq_getElem?_getD, List.getElem?_eq_getElem h]; rfl
theorem ix_nat {α : Type} [Enc α] {l : List α} {k : Nat} (h : k < l.length) : ix l (k : Int) = l[k] := by
  rw [ix_at (by simpa using h)]; simp
theorem ix_get {α : Type} [Enc α] {l : List α} {k : Nat} {a : α} (h : l[k]? = some a) : ix l (k : Int) = a := by
  unfold ix; rw [List.getD_eq_getElem?_getD]; simp [h]
end Go.AB
end

section
set_option maxRecDepth 4000
namespace Go.AB
open Go
open Go.RowKit
theorem strArgs2 {w : World} {R : Nat → Nat} {a b : AV} {vs : Array Value} (h : ArgsR w R [a, b] vs) : ∃ v0 v1, vs = #[v0, v1] ∧ VR w R a v0 ∧ VR w R b v1 := by
  obtain ⟨hl, hr⟩ := h
  obtain ⟨l⟩ := vs
  match l, hl with
  | [v0, v1], _ => exact ⟨v0, v1, rfl, hr 0 _ _ rfl rfl, hr 1 _ _ rfl rfl⟩
  | [], hl => simp at hl
  | [_], hl => simp at hl
  | _ :: _ :: _ :: _, hl => simp at hl
theorem strArgs1 {w : World} {R : Nat → Nat} {a : AV} {vs : Array Value} (h : ArgsR w R [a] vs) : ∃ v0, vs = #[v0] ∧ VR w R a v0 := by
  obtain ⟨hl, hr⟩ := h
  obtain ⟨l⟩ := vs
  match l, hl with
  | [v0], _ => exact ⟨v0, rfl, hr 0 _ _ rfl rfl⟩
  | [], hl => simp at hl
  | _ :: _ :: _, hl => simp at hl
theorem indexByte_calls (a : ByteArray) (c : Int) (w : World) : Calls Go.Proofs.Tryz.prog 224 #[.string a, .int .u8 c] w fun e w' => e = .returned (.int .i64 (Lib.indexByte a.data.toList c.toNat.toUInt8)) ∧ w' = w := by
  have mixed := mix
  have t3 : Go.Proofs.Tryz.prog.underlying 3 = some (.int .i64) := by kernel_rfl
  have u3 := run_underlying t3
  go_enter Go.Proofs.Tryz.func224, (show Go.Proofs.Tryz.f224.ntmps = 8 from rfl)
  go_wp2
  rw [run_callFunc_extern Go.Proofs.Tryz.func254 (by kernel_rfl) (by kernel_rfl) (by kernel_rfl) (e := Extern.BytealgIndexByte.indexByte) (by kernel_rfl), Lib.run_indexByteString]
  simp only [Result.andThen]
  rw [Oper.upon_value]
  go_wp2
  go_ret
  exact ⟨rfl, rfl⟩
def stringslite_IndexByte (s : Str) (c : UInt8) : Option Int := some (Lib.indexByte s.b c)
theorem stringslite_IndexByte_fn {a : Str} {c : UInt8} {s : Store} {Q : List AV → Store → Prop} (h : ok (stringslite_IndexByte a c) fun r => Q [.int .i64 r] s) : FN Go.Proofs.Tryz.prog 224 [.str a.b, .int .u8 c.toNat] s Q := by
  unfold stringslite_IndexByte at h
  rw [ok_some] at h
  intro G w vs h1 h2 h3 h4
  obtain ⟨v0, v1, rfl, k0, k1⟩ := strArgs2 h4
  rw [VR.inv_str k0, VR.inv_int k1]
  refine (indexByte_calls _ _ w).mono fun e w' ⟨he, hw⟩ => ?_
  subst hw
  refine ⟨_, _, s, G, he, h, h1, h3, ⟨?_, trivial⟩, Pres.refl G w'⟩
  have e : ((c.toNat : Int).toNat).toUInt8 = c := by simp
  rw [e]
  exact .int _ _
theorem stringslite_IndexByte_fe {a : Str} {c : UInt8} {s : Store} {r : Int} (h : stringslite_IndexByte a c = some r) : FE Go.Proofs.Tryz.prog 224 [.str a.b, .int .u8 c.toNat] s [.int .i64 r] s := stringslite_IndexByte_fn ⟨r, h, rfl, rfl⟩
theorem index1_calls (a : ByteArray) (c : UInt8) (w : World) : Calls Go.Proofs.Tryz.prog 364 #[.string a, .string ⟨#[c]⟩] w fun e w' => e = .returned (.int .i64 (Lib.indexByte a.data.toList c)) ∧ w' = w := by
  have mixed := mix
  have t3 : Go.Proofs.Tryz.prog.underlying 3 = some (.int .i64) := by kernel_rfl
  have u3 := run_underlying t3
  have t9 : Go.Proofs.Tryz.prog.underlying 9 = some .string := by kernel_rfl
  have u9 := run_underlying t9
  go_enter Go.Proofs.Tryz.func364, (show Go.Proofs.Tryz.f364.ntmps = 143 from rfl)
  go_wp2
  · rename_i hc
    go_ret
    refine ⟨?_, rfl⟩
    have e : a.toList = [c] := (eq_of_beq hc).symm
    have e2 : a.data.toList = [c] := by
      obtain ⟨⟨l⟩⟩ := a
      simpa using e
    rw [e2]
    simp [Lib.indexByte]
  · rw [run_callFunc_extern Go.Proofs.Tryz.func254 (by kernel_rfl) (by kernel_rfl) (by kernel_rfl) (e := Extern.BytealgIndexByte.indexByte) (by kernel_rfl), Lib.run_indexByteString]
    simp only [Result.andThen]
    rw [Oper.upon_value]
    go_wp2
    go_ret
    exact ⟨rfl, rfl⟩
def stringslite_Index (s sub : Str) : Option Int := need (sub.b.length = 1) (some (Lib.indexByte s.b (ix sub.b 0)))
theorem stringslite_Index_fn {a b : Str} {s : Store} {Q : List AV → Store → Prop} (h : ok (stringslite_Index a b) fun r => Q [.int .i64 r] s) : FN Go.Proofs.Tryz.prog 364 [.str a.b, .str b.b] s Q := by
  unfold stringslite_Index at h
  rw [ok_need, ok_some] at h
  obtain ⟨hl, h⟩ := h
  obtain ⟨c, hc⟩ : ∃ c, b.b = [c] := List.length_eq_one_iff.1 hl
  rw [hc] at h ⊢
  intro G w vs h1 h2 h3 h4
  obtain ⟨v0, v1, rfl, k0, k1⟩ := strArgs2 h4
  rw [VR.inv_str k0, VR.inv_str k1]
  refine (index1_calls _ c w).mono fun e w' ⟨he, hw⟩ => ?_
  subst hw
  exact ⟨_, _, s, G, he, h, h1, h3, ⟨.int _ _, trivial⟩, Pres.refl G w'⟩
theorem stringslite_Index_fe {a b : Str} {s : Store} {r : Int} (h : stringslite_Index a b = some r) : FE Go.Proofs.Tryz.prog 364 [.str a.b, .str b.b] s [.int .i64 r] s := stringslite_Index_fn ⟨r, h, rfl, rfl⟩
def isDig (c : UInt8) : Bool := decide (48 ≤ c.toNat) && decide (c.toNat ≤ 57)
theorem iter_pres {G : Gh} {w : World} {s : ByteArray} {pos : Nat} (h : GoodW G w) : GoodW (G.upd w.heap.size .none 0) (w.iter s pos) ∧ Pres G w (G.upd w.heap.size .none 0) (w.iter s pos) ∧ (∀ {st : Store}, StoreR G w st → StoreR (G.upd w.heap.size .none 0) (w.iter s pos) st) := by
  obtain ⟨q1, q2, q3⟩ := alloc_facts h (.stringIter s pos) .none 0
  refine ⟨q1, q2, fun hs => hs.mono h q2 (fun b hb => ?_) (fun b c j _ hc => ?_)⟩
  · obtain ⟨k1, k2, k3⟩ := q3 b (by rw [hb]; simp)
    exact ⟨k1.trans hb, k2, k3⟩
  · obtain ⟨k1, k2, k3⟩ := q3 c (by rw [hc]; simp)
    exact ⟨k1.trans hc, k2, k3⟩
theorem drop_at (s : ByteArray) (pos : Nat) (h : pos < s.size) : s.data.toList.drop pos = (s[pos]'h) :: s.data.toList.drop (pos + 1) := by
  have hl : pos < s.data.toList.length := by simpa using h
  rw [List.drop_eq_getElem_cons hl]
  rfl
theorem width_pos (s : ByteArray) (pos : Nat) (h : pos < s.size) : 1 ≤ (Utf8.decode s pos).2 := by
  by_cases ha : (s[pos]'h).toNat < 128
  · rw [decode_ascii s pos h ha]
    exact Nat.le_refl _
  · exact (decode_high s pos h (by omega)).2
theorem all_calls (s : ByteArray) (w : World) {r : Bool} (hr : s.data.toList.all isDig = r) : Calls Go.Proofs.Tryz.prog 328 #[.string s] w fun e w' => e = .returned (.bool r) ∧ ∃ pos, w' = w.iter s pos := by
  have mixed := mix
  have t3 : Go.Proofs.Tryz.prog.underlying 3 = some (.int .i64) := by kernel_rfl
  have u3 := run_underlying t3
  have t9 : Go.Proofs.Tryz.prog.underlying 9 = some .string := by kernel_rfl
  have u9 := run_underlying t9
  go_enter Go.Proofs.Tryz.func328, (show Go.Proofs.Tryz.f328.ntmps = 13 from rfl)
  go_wp2
  go_loopw [] (fun w' => ∃ pos, w' = w.iter s pos ∧ (s.data.toList.drop pos).all isDig = r) (fun w' => s.size - w'.iterPos w.heap.size)
  case atStart => exact ⟨0, rfl, hr⟩
  case round =>
    obtain ⟨pos, rfl, hall⟩ := hrel
    by_cases hp : pos < s.size
    · rw [drop_at s pos hp, List.all_cons] at hall
      by_cases ha : (s[pos]'hp).toNat < 128
      · have hnx : ∀ ty, (Instr.next (.pointer (some ⟨w.heap.size, 0, none⟩)) true ty).run Go.Proofs.Tryz.prog (w.iter s pos) = _ := fun ty => run_next_ascii w s pos ty hp ha
        generalize (s[pos]'hp) = c at hnx hall ha
        go_wp2
        all_goals first
          | (go_ret
             have hc : isDig c = false := by unfold isDig; simp; omega
             rw [hc] at hall
             rw [← hall]
             exact ⟨rfl, _, rfl⟩)
          | (refine ⟨⟨pos + 1, rfl, ?_⟩, by omega⟩
             have hc : isDig c = true := by unfold isDig; simp; omega
             rw [hc, Bool.true_and] at hall
             exact hall)
      · have hnx : ∀ ty, (Instr.next (.pointer (some ⟨w.heap.size, 0, none⟩)) true ty).run Go.Proofs.Tryz.prog (w.iter s pos) = _ := fun ty => run_next_any w s pos ty hp
        have hd := (decode_high s pos hp (by omega)).1
        have hd2 := decode_le s pos
        have hc : isDig (s[pos]'hp) = false := by unfold isDig; simp; omega
        rw [hc] at hall
        generalize (Utf8.decode s pos).1 = d at hnx hd hd2
        go_wp2
        all_goals first
          | omega
          | (go_ret
             rw [← hall]
             exact ⟨rfl, _, rfl⟩)
          | (exfalso; omega)
    · have hnx : ∀ ty, (Instr.next (.pointer (some ⟨w.heap.size, 0, none⟩)) true ty).run Go.Proofs.Tryz.prog (w.iter s pos) = _ := fun ty => run_next_end w s pos ty hp
      rw [List.drop_eq_nil_of_le (by simpa using (by omega : s.size ≤ pos))] at hall
      go_wp2
      go_ret
      rw [← hall]
      exact ⟨rfl, _, rfl⟩
def num_all (s : Str) : Option Bool := some (s.b.all isDig)
theorem num_all_fn {a : Str} {s : Store} {Q : List AV → Store → Prop} (h : ok (num_all a) fun r => Q [.bool r] s) : FN Go.Proofs.Tryz.prog 328 [.str a.b] s Q := by
  unfold num_all at h
  rw [ok_some] at h
  intro G w vs h1 h2 h3 h4
  obtain ⟨v0, rfl, k0⟩ := strArgs1 h4
  rw [VR.inv_str k0]
  refine (all_calls ⟨a.b.toArray⟩ w (r := a.b.all isDig) (by simp)).mono fun e w' ⟨he, pos, hw⟩ => ?_
  subst hw
  obtain ⟨q1, q2, q3⟩ := iter_pres (s := ⟨a.b.toArray⟩) (pos := pos) h1
  exact ⟨_, _, s, _, he, h, q1, q3 h3, ⟨.bool _, trivial⟩, q2⟩
theorem num_all_fe {a : Str} {s : Store} {r : Bool} (h : num_all a = some r) : FE Go.Proofs.Tryz.prog 328 [.str a.b] s [.bool r] s := num_all_fn ⟨r, h, rfl, rfl⟩
end Go.AB
end

section
set_option maxRecDepth 4000
namespace Go.AB
open Go Go.RowKit
def digStep (st : Int × Bool) (c : UInt8) : Int × Bool :=
  let over := st.2 || decide (st.1 > (2147483647 - ((c.toNat : Int) - 48)).tdiv 10)
  (if over then st.1 else 10 * st.1 + ((c.toNat : Int) - 48), over)
def digL : List UInt8 → Int × Bool → Int × Int
  | [], st => if st.2 then (0, 5) else (st.1, 0)
  | c :: l, st => if isDig c then digL l (digStep st c) else (0, 11)
def DigRel (r : Int × Int) (l : List UInt8) (v4 v5 : Value) : Prop := ∃ (n : Int) (over : Bool), v4 = .int .i64 n ∧ v5 = .bool over ∧ 0 ≤ n ∧ n ≤ 2147483647 ∧ digL l (n, over) = r
theorem DigRel.step {r : Int × Int} {c : UInt8} {l : List UInt8} {n m : Int} {over o : Bool} (hd : 48 ≤ (c.toNat : Int) ∧ (c.toNat : Int) ≤ 57) (h0 : 0 ≤ n) (h1 : n ≤ 2147483647) (h : digL l (digStep (n, over) c) = r)
    (ho : o = (over || decide (n > (2147483647 - ((c.toNat : Int) - 48)).tdiv 10))) (hm : m = if o then n else 10 * n + ((c.toNat : Int) - 48)) : DigRel r l (.int .i64 m) (.bool o) := by
  subst ho; subst hm
  refine ⟨_, _, rfl, rfl, ?_, ?_, h⟩
  · split <;> omega
  · split
    · omega
    · rename_i hh
      have hh : ¬ n > (2147483647 - ((c.toNat : Int) - 48)).tdiv 10 := by simp at hh; omega
      rw [Int.tdiv_eq_ediv_of_nonneg (by omega)] at hh
      omega
theorem dig_over {c : Int} (hd : 48 ≤ c ∧ c ≤ 57) : ((((2147483647 - (((c - 48 + 2147483648) % 4294967296 - 2147483648 + 9223372036854775808) % 18446744073709551616 - 9223372036854775808) + 9223372036854775808) % 18446744073709551616 - 9223372036854775808).tdiv 10 + 9223372036854775808) % 18446744073709551616 - 9223372036854775808) = (2147483647 - (c - 48)).tdiv 10 := by
  have e1 : ((c - 48 + 2147483648) % 4294967296 - 2147483648 + 9223372036854775808) % 18446744073709551616 - 9223372036854775808 = c - 48 := by omega
  rw [e1]
  have e2 : (2147483647 - (c - 48) + 9223372036854775808) % 18446744073709551616 - 9223372036854775808 = 2147483647 - (c - 48) := by omega
  rw [e2, Int.tdiv_eq_ediv_of_nonneg (by omega)]
  omega
theorem dig_next {c n : Int} (hd : 48 ≤ c ∧ c ≤ 57) (h0 : 0 ≤ n) (h1 : n ≤ 2147483647) : ((10 * n + 9223372036854775808) % 18446744073709551616 - 9223372036854775808 + (((c - 48 + 2147483648) % 4294967296 - 2147483648 + 9223372036854775808) % 18446744073709551616 - 9223372036854775808) + 9223372036854775808) % 18446744073709551616 - 9223372036854775808 = 10 * n + (c - 48) := by omega
set_option maxHeartbeats 40000000 in
theorem digits_calls (s : ByteArray) (w : World) {r : Int × Int} (hr : (if s.data.toList = [] then (0, 11) else digL s.data.toList (0, false)) = r) : Calls Go.Proofs.Tryz.prog 329 #[.string s] w fun e w' => e = .returned (.tuple #[.int .i64 r.1, .int .i64 r.2]) ∧ (w' = w ∨ ∃ pos, w' = w.iter s pos) := by
  have mixed := mix
  have t3 : Go.Proofs.Tryz.prog.underlying 3 = some (.int .i64) := by kernel_rfl
  have u3 := run_underlying t3
  have t9 : Go.Proofs.Tryz.prog.underlying 9 = some .string := by kernel_rfl
  have u9 := run_underlying t9
  go_enter Go.Proofs.Tryz.func329, (show Go.Proofs.Tryz.f329.ntmps = 36 from rfl)
  go_wp2
  · have hq := ‹s.toList.isEmpty = true›
    have hc : s.data.toList = [] := by
      obtain ⟨⟨l⟩⟩ := s
      simpa using hq
    rw [if_pos hc] at hr
    subst hr
    go_ret2
    exact ⟨rfl, .inl rfl⟩
  have hq := ‹s.toList.isEmpty = false›
  have hc : s.data.toList ≠ [] := by
    obtain ⟨⟨l⟩⟩ := s
    simpa using hq
  rw [if_neg hc] at hr
  go_loopw [4, 5] (fun v4 v5 w' => ∃ (pos : Nat), w' = w.iter s pos ∧ DigRel r (s.data.toList.drop pos) v4 v5) (fun _ _ w' => s.size - w'.iterPos w.heap.size)
  case atStart => exact ⟨0, rfl, 0, false, rfl, rfl, by omega, by omega, hr⟩
  case round =>
    obtain ⟨pos, rfl, n, over, rfl, rfl, hn0, hn1, hall⟩ := hrel
    by_cases hp : pos < s.size
    · rw [drop_at s pos hp, digL] at hall
      by_cases ha : (s[pos]'hp).toNat < 128
      · have hnx : ∀ ty, (Instr.next (.pointer (some ⟨w.heap.size, 0, none⟩)) true ty).run Go.Proofs.Tryz.prog (w.iter s pos) = _ := fun ty => run_next_ascii w s pos ty hp ha
        generalize (s[pos]'hp) = c at hnx hall ha
        by_cases hdig : 48 ≤ (c.toNat : Int) ∧ (c.toNat : Int) ≤ 57
        · have hc : isDig c = true := by unfold isDig; simp; omega
          rw [if_pos hc] at hall
          cases over <;> go_wp2
          all_goals first
            | (exfalso; omega)
            | (refine ⟨⟨_, _, _, _, ⟨pos + 1, rfl, ?_⟩, rfl, rfl, rfl, rfl⟩, by omega⟩
               first
                 | exact DigRel.step hdig hn0 hn1 hall rfl rfl
                 | (have hx := ‹(!decide (_ < n)) = true›
                    simp only [Bool.not_eq_true'] at hx
                    refine DigRel.step hdig hn0 hn1 hall (by rw [dig_over hdig]; rfl) ?_
                    rw [hx]
                    exact dig_next hdig hn0 hn1)
                 | (have hx := ‹(!decide (_ < n)) = false›
                    simp only [Bool.not_eq_false'] at hx
                    refine DigRel.step hdig hn0 hn1 hall (by rw [dig_over hdig]; rfl) ?_
                    rw [hx]
                    rfl))
        · have hc : isDig c = false := by unfold isDig; simp; omega
          rw [hc] at hall
          have hall : ((0 : Int), (11 : Int)) = r := hall
          subst hall
          cases over <;> go_wp2
          all_goals first
            | (exfalso; omega)
            | (go_ret2
               exact ⟨rfl, .inr ⟨_, rfl⟩⟩)
      · have hnx : ∀ ty, (Instr.next (.pointer (some ⟨w.heap.size, 0, none⟩)) true ty).run Go.Proofs.Tryz.prog (w.iter s pos) = _ := fun ty => run_next_any w s pos ty hp
        have hd := (decode_high s pos hp (by omega)).1
        have hd2 := decode_le s pos
        have hc : isDig (s[pos]'hp) = false := by unfold isDig; simp; omega
        rw [hc] at hall
        have hall : ((0 : Int), (11 : Int)) = r := hall
        subst hall
        generalize (Utf8.decode s pos).1 = d at hnx hd hd2
        cases over <;> go_wp2
        all_goals first
          | (exfalso; omega)
          | (go_ret2
             exact ⟨rfl, .inr ⟨_, rfl⟩⟩)
    · have hnx : ∀ ty, (Instr.next (.pointer (some ⟨w.heap.size, 0, none⟩)) true ty).run Go.Proofs.Tryz.prog (w.iter s pos) = _ := fun ty => run_next_end w s pos ty hp
      rw [List.drop_eq_nil_of_le (by simpa using (by omega : s.size ≤ pos))] at hall
      cases over <;> go_wp2
      all_goals (go_ret2; subst hall; exact ⟨rfl, .inr ⟨_, rfl⟩⟩)
def num_Digits (s : Str) : Option (Int × Int) := some (if s.b = [] then (0, 11) else digL s.b (0, false))
theorem num_Digits_fn {a : Str} {s : Store} {Q : List AV → Store → Prop} (h : ok (num_Digits a) fun r => Q [.int .i64 r.1, .int .i64 r.2] s) : FN Go.Proofs.Tryz.prog 329 [.str a.b] s Q := by
  unfold num_Digits at h
  rw [ok_some] at h
  intro G w vs h1 h2 h3 h4
  obtain ⟨v0, rfl, k0⟩ := strArgs1 h4
  rw [VR.inv_str k0]
  refine (digits_calls ⟨a.b.toArray⟩ w (r := if a.b = [] then (0, 11) else digL a.b (0, false)) (by simp)).mono fun e w' ⟨he, hw⟩ => ?_
  generalize (if a.b = [] then ((0 : Int), (11 : Int)) else digL a.b (0, false)) = r at h he
  have hres : ∀ (G' : Gh) (w' : World), ResR G' w' [.int .i64 r.1, .int .i64 r.2] (.tuple #[.int .i64 r.1, .int .i64 r.2]) := fun G' w' => ⟨_, rfl, rfl, fun j x y hx hy => by
    match j, hx, hy with
    | 0, hx, hy => injection hx with hx; injection hy with hy; subst hx; subst hy; exact ⟨.int _ _, trivial⟩
    | 1, hx, hy => injection hx with hx; injection hy with hy; subst hx; subst hy; exact ⟨.int _ _, trivial⟩
    | _ + 2, hx, _ => simp at hx⟩
  rcases hw with hw | ⟨pos, hw⟩
  · subst hw
    exact ⟨_, _, s, G, he, h, h1, h3, hres _ _, Pres.refl G w'⟩
  · subst hw
    obtain ⟨q1, q2, q3⟩ := iter_pres (s := ⟨a.b.toArray⟩) (pos := pos) h1
    exact ⟨_, _, s, _, he, h, q1, q3 h3, hres _ _, q2⟩
theorem num_Digits_fe {a : Str} {s : Store} {r : Int × Int} (h : num_Digits a = some r) : FE Go.Proofs.Tryz.prog 329 [.str a.b] s [.int .i64 r.1, .int .i64 r.2] s := num_Digits_fn ⟨r, h, rfl, rfl⟩
end Go.AB
end

section
namespace Go.AB
open Go
def Wi (pre cs post : List AV) : List AV := pre ++ cs ++ post
@[go_sem] theorem Wi_cons (a : AV) (p cs r : List AV) : Wi (a :: p) cs r = a :: Wi p cs r := rfl
@[go_sem] theorem Wi_nilc (c : AV) (cs r : List AV) : Wi [] (c :: cs) r = c :: Wi [] cs r := rfl
@[go_sem] theorem Wi_nil (r : List AV) : Wi [] [] r = r := rfl
@[go_sem] theorem Wi_pre (p q cs r : List AV) : Wi (p ++ q) cs r = Wi p (q ++ cs) r := by simp [Wi]
@[go_sem] theorem Wi_post (p cs r : List AV) (a : AV) : Wi p cs (a :: r) = Wi p (cs ++ [a]) r := by simp [Wi]
theorem Wi_len (p cs r : List AV) : (Wi p cs r).length = p.length + cs.length + r.length := by simp [Wi]; omega
@[go_sem] theorem Wi_le (p cs r : List AV) (k n : Nat) (h : k + n ≤ cs.length) : (p.length + k + n ≤ (Wi p cs r).length) = True := by
  rw [Wi_len]; exact eq_true (by omega)
@[go_sem] theorem Wi_le0 (p cs r : List AV) (n : Nat) (h : n ≤ cs.length) : (p.length + n ≤ (Wi p cs r).length) = True := by
  rw [Wi_len]; exact eq_true (by omega)
@[go_sem] theorem Wi_lt (p cs r : List AV) (k : Nat) (h : k < cs.length) : (p.length + k < (Wi p cs r).length) = True := by
  rw [Wi_len]; exact eq_true (by omega)
@[go_sem] theorem Wi_lt0 (p cs r : List AV) (h : 0 < cs.length) : (p.length < (Wi p cs r).length) = True := by
  rw [Wi_len]; exact eq_true (by omega)
@[go_sem] theorem sub_Wi (p cs r : List AV) (k n : Nat) (h : k + n ≤ cs.length) : AB.sub (Wi p cs r) (p.length + k) n = AB.sub cs k n := by
  unfold AB.sub Wi
  rw [List.append_assoc, ← List.drop_drop, List.drop_left, List.drop_append_of_le_length (by omega), List.take_append_of_le_length (by rw [List.length_drop]; omega)]
@[go_sem] theorem sub_Wi0 (p cs r : List AV) (n : Nat) (h : n ≤ cs.length) : AB.sub (Wi p cs r) p.length n = AB.sub cs 0 n := sub_Wi p cs r 0 n (by omega)
theorem setAt_Wi' (p cs r : List AV) (k : Nat) (news : List AV) (h : k + news.length ≤ cs.length) : setAt (Wi p cs r) (p.length + k) news = Wi p (setAt cs k news) r := by
  unfold setAt Wi
  have e1 : (p ++ cs ++ r).take (p.length + k) = p ++ cs.take k := by
    rw [List.append_assoc, List.take_append, List.take_of_length_le (by omega), Nat.add_sub_cancel_left, List.take_append_of_le_length (by omega)]
  have e2 : (p ++ cs ++ r).drop (p.length + k + news.length) = cs.drop (k + news.length) ++ r := by
    rw [List.append_assoc, Nat.add_assoc, ← List.drop_drop, List.drop_left, List.drop_append_of_le_length h]
  rw [e1, e2]
  simp [List.append_assoc]
@[go_sem] theorem setAt_Wi (p cs r : List AV) (k : Nat) (news : List AV) (h : k + news.length ≤ cs.length) : setAt (Wi p cs r) (p.length + k) news = Wi p (setAt cs k news) r := setAt_Wi' p cs r k news h
@[go_sem] theorem setAt_Wi0 (p cs r : List AV) (news : List AV) (h : news.length ≤ cs.length) : setAt (Wi p cs r) p.length news = Wi p (setAt cs 0 news) r := setAt_Wi' p cs r 0 news (by omega)
theorem get_Wi' (p cs r : List AV) (k : Nat) (h : k < cs.length) : (Wi p cs r)[p.length + k]? = cs[k]? := by
  unfold Wi
  rw [List.append_assoc, List.getElem?_append_right (by omega), Nat.add_sub_cancel_left, List.getElem?_append_left h]
@[go_sem] theorem get_Wi (p cs r : List AV) (k : Nat) (h : k < cs.length) : (Wi p cs r)[p.length + k]? = cs[k]? := get_Wi' p cs r k h
@[go_sem] theorem get_Wi0 (p cs r : List AV) (h : 0 < cs.length) : (Wi p cs r)[p.length]? = cs[0]? := get_Wi' p cs r 0 h
theorem takeC_Wi' (p cs r : List AV) (k : Nat) (K : List AV → AV → Prop) (h : k < cs.length) : takeC (p.length + k) (Wi p cs r) K = takeC k cs fun cs' a => K (Wi p cs' r) a := by
  unfold takeC
  rw [get_Wi' p cs r k h]
  cases cs[k]? with
  | none => rfl
  | some a =>
    cases a <;> try rfl
    rename_i o sz n ds
    show K (setAt (Wi p cs r) (p.length + k) [.sl false sz n ds]) _ = K (Wi p (setAt cs k [.sl false sz n ds]) r) _
    rw [setAt_Wi' p cs r k [.sl false sz n ds] (show k + 1 ≤ cs.length by omega)]
@[go_sem] theorem takeC_Wi (p cs r : List AV) (k : Nat) (K : List AV → AV → Prop) (h : k < cs.length) : takeC (p.length + k) (Wi p cs r) K = takeC k cs fun cs' a => K (Wi p cs' r) a := takeC_Wi' p cs r k K h
@[go_sem] theorem takeC_Wi0 (p cs r : List AV) (K : List AV → AV → Prop) (h : 0 < cs.length) : takeC p.length (Wi p cs r) K = takeC 0 cs fun cs' a => K (Wi p cs' r) a := takeC_Wi' p cs r 0 K h
theorem shrI_le {k : IntKind} {a b : Int} (h : 0 ≤ a) : 0 ≤ shrI k a b ∧ shrI k a b ≤ a := by
  unfold shrI
  have hp : (0 : Int) < 2 ^ (min b.toNat k.bits) := Int.pow_pos (by decide)
  rw [Int.fdiv_eq_ediv_of_nonneg _ (Int.le_of_lt hp)]
  exact ⟨Int.ediv_nonneg h (Int.le_of_lt hp), Int.ediv_le_self _ h⟩
theorem u8w_id {n : Int} (h0 : 0 ≤ n) (h1 : n < 256) : ((u8w n).toNat : Int) = n := by
  unfold u8w
  have e : IntKind.u8.wrap n = n := by
    show n.emod 256 = n
    exact Int.emod_eq_of_lt h0 h1
  rw [e]
  show ((UInt8.ofNat n.toNat).toNat : Int) = n
  rw [UInt8.toNat_ofNat']
  omega
theorem u32w_id {n : Int} (h0 : 0 ≤ n) (h1 : n < 4294967296) : ((u32w n).toNat : Int) = n := by
  unfold u32w
  have e : IntKind.u32.wrap n = n := by
    show n.emod 4294967296 = n
    exact Int.emod_eq_of_lt h0 h1
  rw [e]
  show ((UInt32.ofNat n.toNat).toNat : Int) = n
  rw [UInt32.toNat_ofNat']
  omega
@[go_sem] theorem shr8 (x : UInt8) (k : Int) : ((u8w (shrI .u8 (x.toNat : Int) k)).toNat : Int) = shrI .u8 (x.toNat : Int) k := by
  have := shrI_le (k := .u8) (a := (x.toNat : Int)) (b := k) (by omega)
  have := x.toNat_lt
  exact u8w_id (by omega) (by omega)
@[go_sem] theorem shr8_128 (k : Int) : ((u8w (shrI .u8 128 k)).toNat : Int) = shrI .u8 128 k := by
  have := shrI_le (k := .u8) (a := 128) (b := k) (by omega)
  exact u8w_id (by omega) (by omega)
@[go_sem] theorem shr32 (x : UInt32) (k : Int) : ((u32w (shrI .u32 (x.toNat : Int) k)).toNat : Int) = shrI .u32 (x.toNat : Int) k := by
  have := shrI_le (k := .u32) (a := (x.toNat : Int)) (b := k) (by omega)
  have := x.toNat_lt
  exact u32w_id (by omega) (by omega)
attribute [go_sem] Nat.add_zero
@[go_sem] theorem part_zero {α : Type} (l : List α) (hi : Int) : part l 0 hi = l.take hi.toNat := by
  unfold part
  rw [Int.toNat_zero, List.drop_zero, Int.sub_zero]
@[go_sem] theorem le_add_6 (n : Nat) : ((6 : Int) ≤ ((n + 6 : Nat) : Int)) = True := eq_true (by omega)
@[go_sem] theorem getD_0 (l : List UInt8) : l.getD 0 0 = ix l 0 := rfl
@[go_sem] theorem isV_one : isV .one = true := rfl
@[go_sem] theorem view_one : view .one = .one := rfl
@[go_sem] theorem ge_0 : ((0 : Int) ≤ 0) = True := eq_true (by decide)
@[go_sem] theorem ge_1 : ((0 : Int) ≤ 1) = True := eq_true (by decide)
@[go_sem] theorem ge_2 : ((0 : Int) ≤ 2) = True := eq_true (by decide)
@[go_sem] theorem ge_3 : ((0 : Int) ≤ 3) = True := eq_true (by decide)
@[go_sem] theorem ge_4 : ((0 : Int) ≤ 4) = True := eq_true (by decide)
@[go_sem] theorem ge_5 : ((0 : Int) ≤ 5) = True := eq_true (by decide)
@[go_sem] theorem ge_6 : ((0 : Int) ≤ 6) = True := eq_true (by decide)
@[go_sem] theorem ge_7 : ((0 : Int) ≤ 7) = True := eq_true (by decide)
@[go_sem] theorem ge_8 : ((0 : Int) ≤ 8) = True := eq_true (by decide)
@[go_sem] theorem ge_9 : ((0 : Int) ≤ 9) = True := eq_true (by decide)
@[go_sem] theorem ge_10 : ((0 : Int) ≤ 10) = True := eq_true (by decide)
@[go_sem] theorem ge_11 : ((0 : Int) ≤ 11) = True := eq_true (by decide)
@[go_sem] theorem ge_12 : ((0 : Int) ≤ 12) = True := eq_true (by decide)
@[go_sem] theorem ge_13 : ((0 : Int) ≤ 13) = True := eq_true (by decide)
@[go_sem] theorem ge_14 : ((0 : Int) ≤ 14) = True := eq_true (by decide)
@[go_sem] theorem ge_15 : ((0 : Int) ≤ 15) = True := eq_true (by decide)
@[go_sem] theorem ge_16 : ((0 : Int) ≤ 16) = True := eq_true (by decide)
@[go_sem] theorem ge_24 : ((0 : Int) ≤ 24) = True := eq_true (by decide)
@[go_sem] theorem ge_32 : ((0 : Int) ≤ 32) = True := eq_true (by decide)
structure Bld where
  a : AV
  b : AV
def Bld.zero : Bld := ⟨.nilp, .sl false 1 0 []⟩
@[go_sem] theorem Bld_zero_a : Bld.zero.a = .nilp := rfl
@[go_sem] theorem Bld_zero_b : Bld.zero.b = .sl false 1 0 [] := rfl
end Go.AB
end

section
namespace Go.AB
open Go
def GhStep (G G2 : Gh) : Prop := ∀ b, G.R b ≤ G2.R b ∧ (G.O b ≠ .sh → G2.O b = G.O b ∧ G2.R b = G.R b)
theorem FN.conv {P : Program} {f : FuncId} {args : List AV} {s : Store} {Q Q' : List AV → Store → Prop} (h : FN P f args s Q)
    (k : ∀ rs s', Q rs s' → ∀ G w v, GoodW G w → StoreR G w s' → ResR G w rs v → ∃ rs2 s2 G2, Q' rs2 s2 ∧ GhStep G G2 ∧ GoodW G2 w ∧ StoreR G2 w s2 ∧ ResR G2 w rs2 v) : FN P f args s Q' := by
  intro G w vs h1 h2 h3 h4
  refine (h G w vs h1 h2 h3 h4).mono fun e w' ⟨v, rs, s', G', a, hq, hg, hs, hr, hp⟩ => ?_
  obtain ⟨rs2, s2, G2, k1, k2, k3, k4, k5⟩ := k rs s' hq G' w' v hg hs hr
  refine ⟨v, rs2, s2, G2, a, k1, k3, k4, k5, hp.os, hp.tape, hp.output, hp.drawn, hp.size, fun b hb => Nat.le_trans (hp.mono b hb) (k2 b).1, hp.stable, hp.frame, fun b hb ho => ?_, fun b hb ho => ?_⟩
  · obtain ⟨q1, q2⟩ := hp.frameO b hb ho
    obtain ⟨q3, q4⟩ := (k2 b).2 (by rw [q1]; simp)
    exact ⟨q3.trans q1, q4.trans q2⟩
  · obtain ⟨q1, q2⟩ := hp.noneO b hb ho
    obtain ⟨q3, q4⟩ := (k2 b).2 (by rw [q1]; simp)
    exact ⟨q3.trans q1, q4.trans q2⟩
section
variable {G : Gh} {w : World} {s : Store} {b : Nat}
theorem step_at (h : StoreR G w s) (hg : GoodW G w) {cs : List AV} (hs : s b = some (.cells cs)) (r : Nat) :
    GhStep G (G.upd b (.res 0) r) ∧ GoodW (G.upd b (.res 0) r) w ∧ StoreR (G.upd b (.res 0) r) w (s.del b) ∧ (∀ a v, VR w G.R a v → VR w (G.upd b (.res 0) r).R a v) := by
  obtain ⟨q2, q3, c, t, q4, q5, q6⟩ := h b _ hs
  have hR : ∀ b', G.R b' ≤ (G.upd b (.res 0) r).R b' := fun b' => by
    by_cases hb : b' = b
    · subst hb; rw [q3]; exact Nat.zero_le _
    · simp [hb]
  have hv : ∀ a v, VR w G.R a v → VR w (G.upd b (.res 0) r).R a v := fun a v h => h.mono hR fun _ _ _ => rfl
  have same : ∀ b', b' ≠ b → (G.upd b (.res 0) r).O b' = G.O b' ∧ (G.upd b (.res 0) r).R b' = G.R b' := fun b' hb' => ⟨by simp [hb'], by simp [hb']⟩
  have hlt : b < w.heap.size := hg.lt (by rw [q2]; simp)
  refine ⟨fun b' => ⟨hR b', fun hb' => same b' fun e => by subst e; exact hb' q2⟩, ⟨fun b' hb' => ?_, fun b' hb' => ?_⟩, ?_, hv⟩
  · have : b' ≠ b := by omega
    rw [(same b' this).1, hg.newO b' hb']
  · have : b' ≠ b := by omega
    rw [(same b' this).2, hg.newR b' hb']
  · intro b' o hb'
    unfold Store.del at hb'
    split at hb'
    · cases hb'
    · rename_i hne
      obtain ⟨r1, r2, r3⟩ := h b' o hb'
      refine ⟨(same b' hne).1.trans r1, (same b' hne).2.trans r2, ?_⟩
      cases o with
      | cells cs' =>
        obtain ⟨c', t', r4, r5, r6⟩ := r3
        exact ⟨c', t', r4, r5.mono hv (fun b'' j hb'' => by
          have : b'' ≠ b := fun e => by subst e; rw [q2] at hb''; cases hb''
          exact ⟨(same b'' this).1.trans hb'', (same b'' this).2, rfl⟩), r6⟩
      | map es =>
        obtain ⟨ents, clock, r4, r5, r6⟩ := r3
        exact ⟨ents, clock, r4, r5, fun j x y hx hy => ⟨hv _ _ (r6 j x y hx hy).1, hv _ _ (r6 j x y hx hy).2⟩⟩
theorem pack_us (h : StoreR G w s) (hg : GoodW G w) {n cap sz : Nat} {cs sp : List AV} {v : Value} (hs : s b = some (.cells (cs ++ sp))) (hc : 0 < cap) (hn : n ≤ cap) (hl : (cs ++ sp).length = cap * sz) (hl2 : cs.length = n * sz) (hvw : views (cs ++ sp) = cs ++ sp)
    (hr : ResR G w [.arr b 0 n cap] v) : ∃ G2, GhStep G G2 ∧ GoodW G2 w ∧ StoreR G2 w (s.del b) ∧ ResR G2 w [.us sz n cs] v := by
  obtain ⟨k1, k2, k3, k4⟩ := step_at h hg hs 0
  obtain ⟨q2, q3, c, t, q4, q5, q6⟩ := h b _ hs
  refine ⟨_, k1, k2, k3, .inr ⟨b, cap, c, t, sp, hc, hn, VR.inv_arr hr.1 hc, by simp, by simp, q4, by rw [q5.1, hl], hl2, hl, fun j x u hx hu => k4 _ _ (q5.2 j x u hx hu).1, q6, hvw⟩⟩
theorem pack_us0 {sz : Nat} {v : Value} (hr : ResR G w [.arr b 0 0 0] v) : ResR G w [.us sz 0 []] v := by
  rcases VR.inv_arr' hr.1 with e | ⟨_, _, e⟩
  · exact .inl ⟨rfl, rfl, .inr ⟨b, 0, e⟩⟩
  · exact .inl ⟨rfl, rfl, .inl e⟩
theorem pack_sl (h : StoreR G w s) (hg : GoodW G w) {n cap sz : Nat} {cs sp : List AV} {v : Value} (hs : s b = some (.cells (cs ++ sp))) (hc : 0 < cap) (hn : n ≤ cap) (hl : (cs ++ sp).length = cap * sz) (hl2 : cs.length = n * sz) (hvw : views cs = cs)
    (hr : ResR G w [.arr b 0 n cap] v) : ∃ G2, GhStep G G2 ∧ GoodW G2 w ∧ StoreR G2 w (s.del b) ∧ ResR G2 w [.sl true sz n cs] v := by
  obtain ⟨k1, k2, k3, k4⟩ := step_at h hg hs (n * sz)
  obtain ⟨q2, q3, c, t, q4, q5, q6⟩ := h b _ hs
  have e := VR.inv_arr hr.1 hc
  refine ⟨_, k1, k2, k3, ?_, ?_⟩
  · rw [e]
    refine .sl true sz n cs b 0 cap (fun j => c.getD j undef) (fun x hx => q6 x (List.mem_append_left _ hx)) hl2 (by simp [hl2]) hn (fun j x hj => ?_) (fun j x hj => ?_)
    all_goals
      have hj' : (cs ++ sp)[j]? = some x := by rw [List.getElem?_append_left (List.getElem?_eq_some_iff.1 hj).1]; exact hj
      have hlt : j < c.size := by rw [q5.1]; exact (List.getElem?_eq_some_iff.1 hj').1
      have hget : c[j]? = some (c.getD j undef) := by simp [Array.getD_eq_getD_getElem?, hlt]
    · rw [Nat.zero_add, cell_of_row w q4, hget]
    · exact k4 _ _ (q5.2 j x _ hj' hget).1
  · intro base m' cap' hv _
    rw [e] at hv
    injection hv with e1 e2 e3
    subst e3
    exact ⟨b, 0, c, t, (0, 0), e1.symm, by simp, by simp, q4, by rw [q5.1, hl, Nat.zero_add], fun j _ hj => by simp at hj, Nat.le_refl _, rfl, .inl rfl, fun j y _ hy => by
      have hlt : j < (cs ++ sp).length := by rw [← q5.1]; exact (Array.getElem?_eq_some_iff.1 hy).1
      exact oneCell_of_flat (q6 _ (List.getElem_mem hlt)) (q5.2 j _ y (List.getElem?_eq_getElem hlt) hy).1⟩
theorem pack_sl0 {sz : Nat} {v : Value} (hr : ResR G w [.arr b 0 0 0] v) : ResR G w [.sl true sz 0 []] v := by
  rcases VR.inv_arr' hr.1 with e | ⟨_, _, e⟩
  · refine ⟨?_, ?_⟩
    · rw [e]; exact .sl true sz 0 [] b 0 0 (fun _ => undef) Fl.nil (by simp) (by simp) (Nat.le_refl _) (fun j c hj => by simp at hj) (fun j c hj => by simp at hj)
    · intro base m' cap' hv hc; rw [e] at hv; injection hv with _ e2 e3; omega
  · refine ⟨by rw [e]; exact .slnil _ _, ?_⟩
    intro base m' cap' hv hc; rw [e] at hv; injection hv with _ e2 e3; omega
end
theorem del_set {s : Store} {b : Nat} {o : SO} (h : s b = none) : (s.set b o).del b = s := by
  funext i
  unfold Store.set Store.del
  by_cases e : i = b
  · subst e; simp [h]
  · simp [e]
@[go_sem] theorem set_at {s : Store} {b : Nat} {o : SO} : (s.set b o) b = some o := by unfold Store.set; simp
def Sub (s2 s : Store) : Prop := ∀ b o, s2 b = some o → s b = some o
theorem Sub.refl (s : Store) : Sub s s := fun _ _ h => h
theorem Sub.set {s s2 : Store} (h : Sub s2 s) {b : Nat} {o : SO} (hb : s b = none) : Sub s2 (s.set b o) := fun b' o' h' => by
  have := h b' o' h'
  unfold Store.set
  split
  · rename_i e; subst e; rw [hb] at this; cases this
  · exact this
theorem Sub.set2 {s s2 : Store} (h : Sub s2 s) {b : Nat} {o : SO} : Sub (s2.set b o) (s.set b o) := fun b' o' h' => by
  unfold Store.set at h' ⊢
  split
  · rename_i e; rw [if_pos e] at h'; exact h'
  · rename_i e; rw [if_neg e] at h'; exact h b' o' h'
theorem Sub.del {s s2 : Store} (h : Sub s2 s) {b : Nat} (hb : s2 b = none) : Sub s2 (s.del b) := fun b' o' h' => by
  unfold Store.del
  split
  · rename_i e; subst e; rw [hb] at h'; cases h'
  · exact h b' o' h'
theorem Sub.none {s s2 : Store} (h : Sub s2 s) {b : Nat} (hb : s b = none) : s2 b = none := by
  cases h2 : s2 b with
  | none => rfl
  | some o => have := h b o h2; rw [hb] at this; cases this
theorem StoreR.sub {G : Gh} {w : World} {s s2 : Store} (h : StoreR G w s) (hs : Sub s2 s) : StoreR G w s2 := fun b o hb => h b o (hs b o hb)
theorem GhStep.refl (G : Gh) : GhStep G G := fun _ => ⟨Nat.le_refl _, fun _ => ⟨rfl, rfl⟩⟩
theorem FN.weak {P : Program} {f : FuncId} {args : List AV} {s : Store} {Q : List AV → Store → Prop} (h : FN P f args s fun rs s' => ∃ s2, Sub s2 s' ∧ Q rs s2) : FN P f args s Q :=
  h.conv fun rs _ ⟨s2, h1, h2⟩ G _ _ hg hs hr => ⟨rs, s2, G, h2, GhStep.refl G, hg, hs.sub h1, hr⟩
theorem FN.row_sl {P : Program} {f : FuncId} {args : List AV} {s s2 : Store} {Q : List AV → Store → Prop} {sz : Nat} {cs : List AV} {n : Nat} (hl2 : cs.length = n * sz) (hvw : views cs = cs) (hq : Q [.sl true sz n cs] s2)
    (h : FN P f args s fun rs s' => (∃ b cap sp, rs = [.arr b 0 n cap] ∧ s' b = some (.cells (cs ++ sp)) ∧ 0 < cap ∧ n ≤ cap ∧ (cs ++ sp).length = cap * sz ∧ Sub s2 (s'.del b)) ∨ (n = 0 ∧ cs = [] ∧ Sub s2 s' ∧ ∃ b, rs = [.arr b 0 0 0])) : FN P f args s Q := by
  refine h.conv fun rs s' hq' G w v hg hs hr => ?_
  rcases hq' with ⟨b, cap, sp, rfl, hb, hc, hn, hl, hsub⟩ | ⟨rfl, rfl, hsub, b, rfl⟩
  · obtain ⟨G2, k1, k2, k3, k4⟩ := pack_sl hs hg hb hc hn hl hl2 hvw hr
    exact ⟨_, _, G2, hq, k1, k2, k3.sub hsub, k4⟩
  · exact ⟨_, _, G, hq, GhStep.refl G, hg, hs.sub hsub, pack_sl0 hr⟩
theorem FN.row_us {P : Program} {f : FuncId} {args : List AV} {s s2 : Store} {Q : List AV → Store → Prop} {sz : Nat} {cs : List AV} {n : Nat} (hl2 : cs.length = n * sz) (hq : Q [.us sz n cs] s2)
    (h : FN P f args s fun rs s' => (∃ b cap sp, rs = [.arr b 0 n cap] ∧ s' b = some (.cells (cs ++ sp)) ∧ 0 < cap ∧ n ≤ cap ∧ (cs ++ sp).length = cap * sz ∧ views (cs ++ sp) = cs ++ sp ∧ Sub s2 (s'.del b)) ∨ (n = 0 ∧ cs = [] ∧ Sub s2 s' ∧ ∃ b, rs = [.arr b 0 0 0])) : FN P f args s Q := by
  refine h.conv fun rs s' hq' G w v hg hs hr => ?_
  rcases hq' with ⟨b, cap, sp, rfl, hb, hc, hn, hl, hvw, hsub⟩ | ⟨rfl, rfl, hsub, b, rfl⟩
  · obtain ⟨G2, k1, k2, k3, k4⟩ := pack_us hs hg hb hc hn hl hl2 hvw hr
    exact ⟨_, _, G2, hq, k1, k2, k3.sub hsub, k4⟩
  · exact ⟨_, _, G, hq, GhStep.refl G, hg, hs.sub hsub, pack_us0 hr⟩
def plainR : AV → Bool
  | .int _ _ => true
  | .bool _ => true
  | .str _ => true
  | _ => false
theorem plainR_vr {w w' : World} {R R' : Nat → Nat} {a : AV} {v : Value} (h : plainR a = true) (hv : VR w R a v) : VR w' R' a v := by
  cases a <;> first | (cases h; done) | skip
  · rw [VR.inv_bool hv]; exact .bool _
  · rw [VR.inv_int hv]; exact .int _ _
  · rw [VR.inv_str hv]; exact .str _
theorem FN.borrow {P : Program} {f : FuncId} {args args' : List AV} {s : Store} {Q : List AV → Store → Prop} (b k : Nat)
    (h : FN P f args' noStore fun rs _ => rs.all plainR = true ∧ Q rs s)
    (ha : ∀ (G : Gh) (w : World) (vs : Array Value), StoreR G w s → ArgsR w G.R args vs → ArgsR w (fun i => if i = b ∧ b < w.heap.size then k else G.R i) args' vs) : FN P f args s Q := by
  intro G w vs h1 h2 h3 h4
  let G1 : Gh := ⟨fun i => if i = b ∧ b < w.heap.size then k else G.R i, fun i => if G.O i = .none then .none else .frame⟩
  have hO1 : ∀ i, G1.O i = .frame ∨ G1.O i = .none := fun i => by
    show (if G.O i = .none then Owner.none else Owner.frame) = _ ∨ _
    by_cases e : G.O i = .none <;> simp [e, G1]
  have hg1 : GoodW G1 w := ⟨fun i hi => by simp [G1, h1.newO i hi], fun i hi => by
    have : ¬ (i = b ∧ b < w.heap.size) := by omega
    show (if i = b ∧ b < w.heap.size then k else G.R i) = 0
    rw [if_neg this, h1.newR i hi]⟩
  refine (h G1 w vs hg1 (fun i => (hO1 i).elim (fun e => .inr (.inl e)) .inl) (fun i o hi => by cases hi) (ha G w vs h3 h4)).mono fun e w' ⟨v, rs, s', G', he, ⟨hpl, hq⟩, _, _, hr, hp⟩ => ?_
  have same : ∀ i, i < w.heap.size → w'.heap[i]? = w.heap[i]? := fun i hi => hp.frame i hi (hO1 i)
  have hcell : ∀ i j, i < w.heap.size → w'.cell? ⟨i, j, none⟩ = w.cell? ⟨i, j, none⟩ := fun i j hi => World.cell?_of_block (same i hi)
  have hlt : ∀ i, G.O i ≠ .none → i < w.heap.size := fun i hi => h1.lt hi
  have hR0 : ∀ i j, j < G.R i → i < w.heap.size := fun i j hj => by
    rcases Nat.lt_or_ge i w.heap.size with h | h
    · exact h
    · rw [h1.newR i h] at hj; omega
  have hpres : Pres G w G w' := ⟨hp.os, hp.tape, hp.output, hp.drawn, hp.size, fun _ _ => Nat.le_refl _, fun i j hi _ => hcell i j hi, fun i hi _ => same i hi, fun i _ ho => ⟨ho, rfl⟩, fun i _ ho => ⟨ho, rfl⟩⟩
  have hg' : GoodW G w' := ⟨fun i hi => h1.newO i (Nat.le_trans hp.size hi), fun i hi => h1.newR i (Nat.le_trans hp.size hi)⟩
  refine ⟨v, rs, s, G, he, hq, hg', h3.mono h1 hpres (fun i hi => ⟨hi, rfl, same i (hlt i (by rw [hi]; simp))⟩) (fun i c j _ hc => ⟨hc, rfl, same c (hlt c (by rw [hc]; simp))⟩), ?_, hpres⟩
  match rs, hpl, hr with
  | [], _, hr =>
    obtain ⟨ys, q1, q2, q3⟩ := hr
    exact ⟨ys, q1, q2, fun j x y hx hy => by simp at hx⟩
  | [a], hpl, hr =>
    have hpa : plainR a = true := by simpa using hpl
    have hr' : VR w' G'.R a v ∧ OwnR G' w' (.res 0) a v := by
      cases a <;> first | exact hr | (cases hpa; done)
    show res1R G w' a v
    have hv := plainR_vr (w' := w') (R' := G.R) hpa hr'.1
    cases a <;> first | exact ⟨hv, trivial⟩ | (cases hpa; done)
  | a1 :: a2 :: rr, hpl, hr =>
    obtain ⟨ys, q1, q2, q3⟩ := hr
    refine ⟨ys, q1, q2, fun j x y hx hy => ?_⟩
    have hpa : plainR x = true := List.all_eq_true.1 hpl x (List.mem_of_getElem? hx)
    refine ⟨plainR_vr hpa (q3 j x y hx hy).1, ?_⟩
    cases x <;> first | trivial | (cases hpa; done)
theorem arr_view {G : Gh} {w : World} {s : Store} {b n cap sz : Nat} {cs : List AV} {v : Value} (h : StoreR G w s) (hlen : cs.length = n * sz) (hn : n ≤ cap) (hvw : views cs = cs) (hs : cs ≠ [] → ∃ sp, s b = some (.cells (cs ++ sp))) (hv : VR w G.R (.arr b 0 n cap) v) (hsz : 0 < sz) :
    VR w (fun i => if i = b ∧ b < w.heap.size then n * sz else G.R i) (.sl false sz n cs) v := by
  by_cases hcs : cs = []
  · subst hcs
    have hn0 : n = 0 := by
      rcases Nat.mul_eq_zero.1 hlen.symm with h | h
      · exact h
      · omega
    subst hn0
    rcases VR.inv_arr' hv with e | ⟨_, _, e⟩
    · rw [e]; exact .sl false sz 0 [] b 0 cap (fun _ => undef) Fl.nil (by simp) (Nat.zero_le _) (Nat.zero_le _) (fun j c hj => by simp at hj) (fun j c hj => by simp at hj)
    · rw [e]; exact .slnil _ _
  · obtain ⟨sp, hs⟩ := hs hcs
    obtain ⟨q2, q3, c, t, q4, q5, q6⟩ := h b _ hs
    have hb : b < w.heap.size := by
      rcases Nat.lt_or_ge b w.heap.size with h | h
      · exact h
      · rw [Array.getElem?_eq_none h] at q4; cases q4
    have hn0 : 0 < n := by
      rcases Nat.eq_zero_or_pos n with h | h
      · subst h; rw [Nat.zero_mul] at hlen; exact absurd (List.eq_nil_of_length_eq_zero hlen) hcs
      · exact h
    have e := VR.inv_arr hv (by omega)
    rw [e]
    have hmono : ∀ a u, VR w G.R a u → VR w (fun i => if i = b ∧ b < w.heap.size then n * sz else G.R i) a u := fun a u h => h.mono (fun i => by
      show G.R i ≤ if i = b ∧ b < w.heap.size then n * sz else G.R i
      split
      · rename_i e; rw [e.1, q3]; exact Nat.zero_le _
      · exact Nat.le_refl _) fun _ _ _ => rfl
    refine .sl false sz n cs b 0 cap (fun j => c.getD j undef) (fun x hx => q6 x (List.mem_append_left _ hx)) hlen (by simp [hb, hlen]) hn (fun j x hj => ?_) (fun j x hj => ?_)
    all_goals
      have hj' : (cs ++ sp)[j]? = some x := by rw [List.getElem?_append_left (List.getElem?_eq_some_iff.1 hj).1]; exact hj
      have hlt : j < c.size := by rw [q5.1]; exact (List.getElem?_eq_some_iff.1 hj').1
      have hget : c[j]? = some (c.getD j undef) := by simp [Array.getD_eq_getD_getElem?, hlt]
    · rw [Nat.zero_add, cell_of_row w q4, hget]
    · exact hmono _ _ (q5.2 j x _ hj' hget).1
end Go.AB
end

section
namespace Go.AB
open Go
theorem FN.own_us {P : Program} {f : FuncId} {args : List AV} {s : Store} {Q : List AV → Store → Prop} {sz n : Nat} {cs : List AV} (hpl : cs.all plainR = true) (hnu : ∀ x, cs[0]? ≠ some (.int .u8 x)) (hsz : 0 < sz)
    (h : FE P f args noStore [.sl true sz n cs] noStore) (hq : Q [.us sz n cs] s) : FN P f args s Q := by
  intro G w vs h1 h2 h3 h4
  let G1 : Gh := ⟨G.R, fun i => if G.O i = .none then .none else .frame⟩
  have hO1 : ∀ i, G1.O i = .frame ∨ G1.O i = .none := fun i => by
    show (if G.O i = .none then Owner.none else Owner.frame) = _ ∨ _
    by_cases e : G.O i = .none <;> simp [e, G1]
  have hg1 : GoodW G1 w := ⟨fun i hi => by simp [G1, h1.newO i hi], fun i hi => h1.newR i hi⟩
  refine (h G1 w vs hg1 (fun i => (hO1 i).elim (fun e => .inr (.inl e)) .inl) (fun i o hi => by cases hi) h4).mono fun e w' ⟨v, rs, s', G', he, ⟨hrs, _⟩, hg', _, hr, hp⟩ => ?_
  subst hrs
  have hr' : VR w' G'.R (.sl true sz n cs) v ∧ OwnR G' w' (.res 0) (.sl true sz n cs) v := hr
  have same : ∀ i, i < w.heap.size → w'.heap[i]? = w.heap[i]? := fun i hi => hp.frame i hi (hO1 i)
  have hcell : ∀ i j, i < w.heap.size → w'.cell? ⟨i, j, none⟩ = w.cell? ⟨i, j, none⟩ := fun i j hi => World.cell?_of_block (same i hi)
  have hlt : ∀ i, G.O i ≠ .none → i < w.heap.size := fun i hi => h1.lt hi
  have old : ∀ i, i < w.heap.size → G'.O i ≠ .res 0 ∧ G'.R i = G.R i := fun i hi => by
    rcases hO1 i with e | e
    · obtain ⟨q1, q2⟩ := hp.frameO i hi e; exact ⟨by rw [q1]; simp, q2⟩
    · obtain ⟨q1, q2⟩ := hp.noneO i hi e; exact ⟨by rw [q1]; simp, q2⟩
  -- the ghosts behind, but for a new row
  have fin : ∀ (b : Nat), w.heap.size ≤ b → b < w'.heap.size → ∀ G2 : Gh, G2 = ⟨fun i => if i = b then 0 else G'.R i, fun i => if i < w.heap.size then G.O i else if i = b then .res 0 else .none⟩ →
      GoodW G2 w' ∧ StoreR G2 w' s ∧ Pres G w G2 w' := by
    intro b hb1 hb2 G2 hG2
    subst hG2
    have hpres : Pres G w ⟨fun i => if i = b then 0 else G'.R i, fun i => if i < w.heap.size then G.O i else if i = b then .res 0 else .none⟩ w' := by
      refine ⟨hp.os, hp.tape, hp.output, hp.drawn, hp.size, fun i hi => ?_, fun i j hi _ => hcell i j hi, fun i hi _ => same i hi, fun i hi ho => ?_, fun i hi ho => ?_⟩
      · show G.R i ≤ if i = b then 0 else G'.R i
        rw [if_neg (by omega), (old i hi).2]; exact Nat.le_refl _
      · refine ⟨?_, ?_⟩
        · show (if i < w.heap.size then G.O i else _) = _
          rw [if_pos hi]; exact ho
        · show (if i = b then 0 else G'.R i) = _
          rw [if_neg (by omega), (old i hi).2]
      · refine ⟨?_, ?_⟩
        · show (if i < w.heap.size then G.O i else _) = _
          rw [if_pos hi]; exact ho
        · show (if i = b then 0 else G'.R i) = _
          rw [if_neg (by omega), (old i hi).2]
    refine ⟨⟨fun i hi => ?_, fun i hi => ?_⟩, ?_, hpres⟩
    · have := hp.size
      show (if i < w.heap.size then G.O i else if i = b then .res 0 else .none) = _
      rw [if_neg (by omega), if_neg (by omega)]
    · show (if i = b then 0 else G'.R i) = 0
      rw [if_neg (by omega), hg'.newR i hi]
    · have hk : ∀ i, G.O i ≠ .none → (if i < w.heap.size then G.O i else if i = b then Owner.res 0 else Owner.none) = G.O i ∧ (if i = b then 0 else G'.R i) = G.R i ∧ w'.heap[i]? = w.heap[i]? := fun i hi => by
        have hi' := hlt i hi
        exact ⟨if_pos hi', by rw [if_neg (by omega), (old i hi').2], same i hi'⟩
      exact h3.mono h1 hpres (fun i hi => by
        obtain ⟨k1, k2, k3⟩ := hk i (by rw [hi]; simp)
        exact ⟨k1.trans hi, k2, k3⟩) (fun i c j _ hc => by
        obtain ⟨k1, k2, k3⟩ := hk c (by rw [hc]; simp)
        exact ⟨k1.trans hc, k2, k3⟩)
  -- nothing new: the first free place stands for the row
  have none_ : UsR ⟨G.R, G.O⟩ w' (.res 0) sz n cs v → ∃ v rs s' G'', e = .returned v ∧ Q rs s' ∧ GoodW G'' w' ∧ StoreR G'' w' s' ∧ ResR G'' w' rs v ∧ Pres G w G'' w' := by
    intro hu
    have hpres : Pres G w G w' := ⟨hp.os, hp.tape, hp.output, hp.drawn, hp.size, fun _ _ => Nat.le_refl _, fun i j hi _ => hcell i j hi, fun i hi _ => same i hi, fun i _ ho => ⟨ho, rfl⟩, fun i _ ho => ⟨ho, rfl⟩⟩
    refine ⟨v, _, s, G, he, hq, ⟨fun i hi => h1.newO i (Nat.le_trans hp.size hi), fun i hi => h1.newR i (Nat.le_trans hp.size hi)⟩, h3.mono h1 hpres (fun i hi => ⟨hi, rfl, same i (hlt i (by rw [hi]; simp))⟩) (fun i c j _ hc => ⟨hc, rfl, same c (hlt c (by rw [hc]; simp))⟩), hu, hpres⟩
  rcases VR.inv_sl hr'.1 with ⟨e0, rfl, rfl⟩ | ⟨b, off, cap, e1, hl, hR, hcap, hat⟩
  · exact none_ (.inl ⟨rfl, rfl, .inl e0.own⟩)
  · by_cases hc0 : cap = 0
    · subst hc0
      have hn : n = 0 := by omega
      subst hn
      have hcs : cs = [] := List.eq_nil_of_length_eq_zero (by rw [hl]; simp)
      subst hcs
      exact none_ (.inl ⟨rfl, rfl, .inr ⟨b, off, e1⟩⟩)
    · obtain ⟨b', off', c, t, fz, q1, q2, q3, q4, q5, _, _, rfl, hz, hone⟩ := hr'.2 _ _ _ e1 (by omega)
      injection q1 with q1; injection q1 with q1 q1' _
      subst q1; subst q1'
      have hz : fz = (0, 0) := by
        rcases hz with hz | ⟨hn0, x, hz⟩
        · exact hz
        · obtain ⟨u, u1, u2, _⟩ := hat
          have hlt : 0 < cs.length := by rw [hl]; exact Nat.mul_pos hn0 hsz
          have k1 := u1 0 _ (List.getElem?_eq_getElem hlt)
          rw [Nat.zero_add, cell_of_row w' q4, hz] at k1
          injection k1 with k1
          have k2 := u2 0 _ (List.getElem?_eq_getElem hlt)
          rw [← k1] at k2
          have hp0 := List.all_eq_true.1 hpl _ (List.getElem_mem hlt)
          cases hc : cs[0] with
          | int k y =>
            rw [hc] at k2
            have := VR.inv_int k2
            injection this with t1 t2
            exact absurd (by rw [List.getElem?_eq_getElem hlt, hc, ← t1]) (hnu y)
          | bool y => rw [hc] at k2; have := VR.inv_bool k2; cases this
          | str y => rw [hc] at k2; have := VR.inv_str k2; cases this
          | _ => rw [hc] at hp0; cases hp0
      subst hz
      have hb1 : w.heap.size ≤ b := by
        rcases Nat.lt_or_ge b w.heap.size with hb | hb
        · exact absurd q2 (old b hb).1
        · exact hb
      have hb2 : b < w'.heap.size := (Array.getElem?_eq_some_iff.1 q4).1
      obtain ⟨f1, f2, f3⟩ := fin b hb1 hb2 _ rfl
      refine ⟨v, _, s, _, he, hq, f1, f2, ?_, f3⟩
      obtain ⟨u, u1, u2, u3⟩ := hat
      have hle : cs.length ≤ cap * sz := by rw [hl]; exact Nat.mul_le_mul_right _ hcap
      refine .inr ⟨b, cap, c, t, List.replicate (cap * sz - cs.length) .one, by omega, hcap, e1, ?_, ?_, q4, by rw [q5, Nat.zero_add], hl, by rw [List.length_append, List.length_replicate]; omega, fun j x y hx hy => ?_, fun x hx => ?_, ?_⟩
      · show (if b < w.heap.size then G.O b else if b = b then .res 0 else .none) = _
        rw [if_neg (by omega), if_pos rfl]
      · show (if b = b then 0 else G'.R b) = 0
        rw [if_pos rfl]
      · rcases Nat.lt_or_ge j cs.length with hj | hj
        · rw [List.getElem?_append_left hj] at hx
          have k1 := u1 j x hx
          rw [Nat.zero_add, cell_of_row w' q4, hy] at k1
          injection k1 with k1
          rw [k1]
          exact plainR_vr (List.all_eq_true.1 hpl x (List.mem_of_getElem? hx)) (u2 j x hx)
        · rw [List.getElem?_append_right hj, List.getElem?_replicate] at hx
          split at hx
          · injection hx with hx; rw [← hx]; exact .one _ (hone j y (by rw [← hl]; omega) hy)
          · cases hx
      · rcases List.mem_append.1 hx with hx | hx
        · exact u3 x hx
        · rw [(List.mem_replicate.1 hx).2]; rfl
      · unfold views
        rw [List.map_append, List.map_replicate]
        congr 1
        have : ∀ l : List AV, l.all plainR = true → l.map view = l := fun l h => by
          induction l with
          | nil => rfl
          | cons a l ih =>
            rw [List.all_cons, Bool.and_eq_true] at h
            rw [List.map_cons, ih h.2]
            cases a <;> first | rfl | (cases h.1; done)
        exact this cs hpl
end Go.AB
end

section
namespace Go.AB
open Go
def bigN : Nat := 18446744073709551616
@[go_sem] theorem nbeq_eq (a b : Nat) : Nat.beq a b = (a == b) := Bool.eq_iff_iff.2 (by rw [Nat.beq_eq]; simp)
theorem b_to {A C : Prop} {b : Bool} (h : b = true) (k : A → C) : A → b = true ∧ C := fun x => ⟨h, k x⟩
theorem n_to {A C : Prop} {a b : Nat} (h : a = b) (k : A → C) : A → a = b ∧ C := fun x => ⟨h, k x⟩
theorem sp_to {A P Q R : Prop} {b : Bool} {c1 c2 : Prop} (p : b = true → c1 → A → P) (q : b = true → c2 → A → Q) (r : b = false → A → R) : A → (b = true → c1 → P) ∧ (b = true → c2 → Q) ∧ (b = false → R) := fun a => ⟨fun h k => p h k a, fun h k => q h k a, fun h => r h a⟩
@[go_sem] theorem pad_int0 (l : List Int) : pad [.int .i64 0] (views (AB.sub (flat l) 0 1)) = [.int .i64 (ix l 0)] := pad_int l 0
theorem FE_cast {P : Program} {f : FuncId} {as1 as2 rs : List AV} {s s' : Store} (e : as1 = as2) (h : FE P f as1 s rs s') : FE P f as2 s rs s' := e ▸ h
def loadDR (σ : St) (d : Option Nat) (K : St → Prop) (b off : Nat) : Option SO → Prop
  | some (.cells cs) => takeC off cs fun cs' a => K ({ σ with s := σ.s.set b (.cells cs') }.put d a)
  | _ => False
@[go_sem] theorem loadDW_ref (σ : St) (d : Option Nat) (K : St → Prop) (b off : Nat) : loadDW σ d K (.ref b off) = loadDR σ d K b off (σ.s b) := by
  show (match σ.s b with | some (.cells cs) => takeC off cs fun cs' a => K ({ σ with s := σ.s.set b (.cells cs') }.put d a) | _ => False) = _
  unfold loadDR
  rcases σ.s b with _ | ⟨_ | _⟩ <;> rfl
@[go_sem] theorem loadDR_cells (σ : St) (d : Option Nat) (K : St → Prop) (b off : Nat) (cs : List AV) : loadDR σ d K b off (some (.cells cs)) = takeC off cs fun cs' a => K ({ σ with s := σ.s.set b (.cells cs') }.put d a) := rfl
def loadDL (σ : St) (d : Option Nat) (K : St → Prop) (i off : Nat) : AV → Prop
  | .loc cs => d ≠ some i ∧ takeC off cs fun cs' a => K ((σ.put (some i) (.loc cs')).put d a)
  | _ => False
@[go_sem] theorem loadDW_lp (σ : St) (d : Option Nat) (K : St → Prop) (i off : Nat) : loadDW σ d K (.lp i off) = loadDL σ d K i off (look σ.e i) := by
  show (match look σ.e i with | .loc cs => d ≠ some i ∧ takeC off cs fun cs' a => K ((σ.put (some i) (.loc cs')).put d a) | _ => False) = _
  cases look σ.e i <;> rfl
@[go_sem] theorem loadDL_loc (σ : St) (d : Nat) (K : St → Prop) (i off : Nat) (cs : List AV) : loadDL σ (some d) K i off (.loc cs) = (Nat.beq d i = false ∧ takeC off cs fun cs' a => K ((σ.put (some i) (.loc cs')).put (some d) a)) := by
  show (some d ≠ some i ∧ _) = _
  have e : (some d ≠ some i) = (Nat.beq d i = false) := propext ⟨fun h => by
    cases hb : Nat.beq d i with
    | false => rfl
    | true => exact (h (by rw [Nat.eq_of_beq_eq_true hb])).elim, fun h e => by
    injection e with e
    subst e
    rw [Nat.beq_refl] at h
    cases h⟩
  rw [e]
@[go_sem] theorem takeC_zero (o : Bool) (sz n : Nat) (ds cs : List AV) (k : List AV → AV → Prop) : takeC 0 (.sl o sz n ds :: cs) k = k (.sl false sz n ds :: cs) (.sl o sz n ds) := rfl
@[go_sem] theorem takeC_succ (a : AV) (n : Nat) (cs : List AV) (k : List AV → AV → Prop) : takeC (n + 1) (a :: cs) k = takeC n cs fun cs' x => k (a :: cs') x := by
  have e : ∀ x, setAt (a :: cs) (n + 1) [x] = a :: setAt cs n [x] := fun x => by
    unfold setAt
    rw [List.take_succ_cons, show n + 1 + [x].length = (n + [x].length) + 1 by simp [Nat.add_right_comm], List.drop_succ_cons]
    rfl
  unfold takeC
  rw [List.getElem?_cons_succ]
  cases h : cs[n]? with
  | none => rfl
  | some b => cases b <;> first | rfl | (simp only [e])
def ixI : AV → Option Int
  | .int _ n => some n
  | _ => none
@[go_sem] theorem ixV_none (f : IX → AV) (d : Int) : ixV f none d = some d := rfl
@[go_sem] theorem ixV_some (f : IX → AV) (x : IX) (d : Int) : ixV f (some x) d = ixI (f x) := rfl
@[go_sem] theorem ixI_int (k : IntKind) (n : Int) : ixI (.int k n) = some n := rfl
attribute [go_sem] Option.isSome_some Bool.cond_true
@[go_sem] theorem arrOff_zero (off cap sz : Nat) : arrOff off cap 0 sz = off := by
  unfold arrOff
  cases (cap == 0) <;> simp
@[go_sem] theorem toNat_zero : (0 : Int).toNat = 0 := rfl
attribute [go_sem] Int.toNat_natCast Int.sub_zero Nat.sub_zero
@[go_sem] theorem toNat_sub' (a b : Nat) : ((a : Int) - (b : Int)).toNat = a - b := by omega
section
variable {σ : St} {d : Option Nat} {K : St → Prop} {sz by' : Nat} {zero : List AV} {b off n cap m : Nat} {cs ds : List AV}
theorem srcV_arr {s : Store} (hs : s b = some (.cells cs)) (hf : off + m * sz ≤ cs.length) : srcV s sz (.arr b off m cap) = some (m, views (AB.sub cs off (m * sz))) := by
  show (bif m == 0 then some (0, []) else cellsAt m sz off (s b)) = _
  by_cases hm : m = 0
  · subst hm; simp [AB.sub, views]
  · rw [show (m == 0) = false by simpa using hm, hs]
    show (bif decide (off + m * sz ≤ cs.length) then some (m, views (AB.sub cs off (m * sz))) else none) = _
    rw [decide_eq_true hf]; rfl
theorem srcV_sl (s : Store) (ow : Bool) : srcV s sz (.sl ow sz m ds) = some (m, views ds) := by unfold srcV; simp
theorem srcV_none (s : Store) : srcV s sz (.arr b off 0 cap) = some (0, []) := rfl
theorem oldsV_arr {s : Store} (hs : s b = some (.cells cs)) (hf : off + n * sz ≤ cs.length) : oldsV s sz b off n = some (views (AB.sub cs off (n * sz))) := by
  unfold oldsV
  by_cases hm : n = 0
  · subst hm; simp [AB.sub, views]
  · rw [show (n == 0) = false by simpa using hm, hs]
    show ((bif decide (off + n * sz ≤ cs.length) then some (n, views (AB.sub cs off (n * sz))) else none) : Option (Nat × List AV)).map Prod.snd = _
    rw [decide_eq_true hf]; rfl
theorem appendAW_in (hz : zero.length = sz) (hs : σ.s b = some (.cells cs)) (hf : off + cap * sz ≤ cs.length) (hm : n + m ≤ cap)
    (hk : K ({ σ with s := σ.s.set b (.cells (setAt cs (off + n * sz) ds)) }.put d (.arr b off (n + m) cap))) : appendAW sz by' zero σ d K (.arr b off n cap) (some (m, ds)) := by
  have hn : off + n * sz ≤ cs.length := Nat.le_trans (Nat.add_le_add_left (Nat.mul_le_mul_right _ (by omega)) _) hf
  show appA sz by' zero σ d K b off n cap m ds (oldsV σ.s sz b off n)
  rw [oldsV_arr hs hn]
  refine ⟨hz, fun _ => .inr ⟨by rw [hs]; exact hf, ?_⟩, fun h => by omega⟩
  rw [hs]; exact hk
theorem appendAW_new (hz : zero.length = sz) {olds : List AV} (ho : oldsV σ.s sz b off n = some olds) (hm : cap < n + m) (hr : (n + m) * by' ≤ room)
    (hk : ∀ b' cap', σ.s b' = none → n + m ≤ cap' → K ({ σ with s := σ.s.set b' (.cells (olds ++ ds ++ (List.replicate (cap' - (n + m)) zero).flatten)) }.put d (.arr b' 0 (n + m) cap'))) : appendAW sz by' zero σ d K (.arr b off n cap) (some (m, ds)) := by
  show appA sz by' zero σ d K b off n cap m ds (oldsV σ.s sz b off n)
  rw [ho]
  exact ⟨hz, fun h => by omega, fun _ => ⟨hr, hk⟩⟩
theorem appendAW_zero (hz : zero.length = sz) {olds : List AV} (ho : oldsV σ.s sz b off n = some olds) (hm : n ≤ cap) (hk : K (σ.put d (.arr b off n cap))) : appendAW sz by' zero σ d K (.arr b off n cap) (some (0, ds)) := by
  show appA sz by' zero σ d K b off n cap 0 ds (oldsV σ.s sz b off n)
  rw [ho]
  exact ⟨hz, fun _ => .inl ⟨rfl, hk⟩, fun h => by omega⟩
theorem copyAW_in (hs : σ.s b = some (.cells cs)) (hf : off + n * sz ≤ cs.length)
    (hk : K ({ σ with s := σ.s.set b (.cells (setAt cs off (ds.take (min m n * sz)))) }.put d (.int .i64 (min m n : Nat)))) : copyAW sz σ d K (.arr b off n cap) (some (m, ds)) := by
  refine .inr ⟨by rw [hs]; exact hf, ?_⟩
  rw [hs]; exact hk
theorem copyAW_zero (h0 : min m n = 0) (hk : K (σ.put d (.int .i64 0))) : copyAW sz σ d K (.arr b off n cap) (some (m, ds)) := .inl ⟨h0, hk⟩
theorem clearAW_in (hz : views zero = zero) (hs : σ.s b = some (.cells cs)) (hf : off + n * zero.length ≤ cs.length)
    (hk : K ({ σ with s := σ.s.set b (.cells (setAt cs off (List.replicate n zero).flatten)) }.put d (.tup []))) : clearAW zero σ d K (.arr b off n cap) := by
  refine .inr ⟨by rw [hs]; exact hf, hz, ?_⟩
  rw [hs]; exact hk
theorem clearAW_zero (h0 : n = 0) (hk : K (σ.put d (.tup []))) : clearAW zero σ d K (.arr b off n cap) := .inl ⟨h0, hk⟩
theorem appendZW_new (hz : zero.length = sz) (hv : views zero = zero) {olds : List AV} (ho : oldsV σ.s sz b off n = some olds) (hm : cap < n + m) (hr : (n + m) * by' ≤ room)
    (hk : ∀ b' cap', σ.s b' = none → n + m ≤ cap' → K ({ σ with s := σ.s.set b' (.cells (olds ++ (List.replicate m zero).flatten ++ (List.replicate (cap' - (n + m)) zero).flatten)) }.put d (.arr b' 0 (n + m) cap'))) : appendZW sz by' zero σ d K (.arr b off n cap) (.int .i64 (m : Nat)) := by
  show 0 ≤ ((m : Nat) : Int) ∧ _
  refine ⟨Int.natCast_nonneg m, by simpa using hm, hv, ?_⟩
  rw [Int.toNat_natCast]
  show appA sz by' zero σ d K b off n cap m _ (oldsV σ.s sz b off n)
  rw [ho]
  exact ⟨hz, fun h => by omega, fun _ => ⟨hr, hk⟩⟩
theorem ovlW_in {P : Program} {f : FuncId} {ow : Bool} {b' off' n' cap' m : Nat} {cs : List AV} (h1 : OvlIs P f) (h2 : 0 < m) (h3 : cs ≠ []) (h4 : 0 < cap') {o : List AV} (h5 : σ.s b' = some (.cells o)) (h6 : o.length ≠ 0) (hk : K (σ.put d (.bool false))) : ovlW P f σ d K (.sl ow sz m cs) (.arr b' off' n' cap') := by
  cases m with
  | zero => omega
  | succ m => cases cs with
    | nil => exact absurd rfl h3
    | cons c cs => cases cap' with
      | zero => omega
      | succ cap' =>
        refine ⟨h1, ?_, hk⟩
        cases o with
        | nil => exact absurd rfl h6
        | cons _ _ => rw [h5]; exact trivial
theorem setAt2 (C X Y : List AV) (k k' : Nat) (h1 : k' = k + Y.length) (h2 : k' + X.length ≤ C.length) : setAt (setAt C k' X) k Y = C.take k ++ Y ++ X ++ C.drop (k' + X.length) := by
  unfold setAt
  have e1 : (C.take k' ++ X ++ C.drop (k' + X.length)).take k = C.take k := by
    rw [List.append_assoc, List.take_append_of_le_length (by simp; omega), List.take_take, Nat.min_eq_left (by omega)]
  have e2 : (C.take k' ++ X ++ C.drop (k' + X.length)).drop (k + Y.length) = X ++ C.drop (k' + X.length) := by
    rw [← h1, List.append_assoc, List.drop_append_of_le_length (by simp; omega), List.drop_of_length_le (by simp; omega), List.nil_append]
  rw [e1, e2]
  simp [List.append_assoc]
theorem arrOff_lt {off cap l sz : Nat} (h : l < cap) : arrOff off cap l sz = off + l * sz := by
  unfold arrOff; rw [show (cap == l) = false by simp; omega]; rfl
end
section
variable {α : Type} [Enc α]
theorem flat_take' (l : List α) (k : Nat) : flat (l.take k) = (flat l).take (k * Enc.w α) := (flat_take l k).symm
theorem flat_drop' (l : List α) (k : Nat) : flat (l.drop k) = (flat l).drop (k * Enc.w α) := (flat_drop l k).symm
theorem row_sub (l : List α) (sp : List AV) (n j m : Nat) (hn : n = Enc.w α) (h : j + m ≤ l.length) : AB.sub (flat l ++ sp) (j * n) (m * n) = flat ((l.drop j).take m) := by
  subst hn
  rw [← flat_sub l _ j m rfl]
  unfold AB.sub
  have h1 : j * Enc.w α ≤ (flat l).length := by rw [flat_len]; exact Nat.mul_le_mul_right _ (by omega)
  rw [List.drop_append_of_le_length h1, List.take_append_of_le_length]
  rw [List.length_drop, flat_len, ← Nat.sub_mul]
  exact Nat.mul_le_mul_right _ (by omega)
theorem row_set (l l' : List α) (sp : List AV) (n i : Nat) (hn : n = Enc.w α) (h : i + l'.length ≤ l.length) : setAt (flat l ++ sp) (i * n) (flat l') = flat (l.take i ++ l' ++ l.drop (i + l'.length)) ++ sp := by
  subst hn
  unfold setAt
  have e1 : i * Enc.w α + (flat l').length = (i + l'.length) * Enc.w α := by rw [flat_len, Nat.add_mul]
  have h1 : i * Enc.w α ≤ (flat l).length := by rw [flat_len]; exact Nat.mul_le_mul_right _ (by omega)
  have h2 : (i + l'.length) * Enc.w α ≤ (flat l).length := by rw [flat_len]; exact Nat.mul_le_mul_right _ h
  rw [e1, List.take_append_of_le_length h1, List.drop_append_of_le_length h2, flat_append, flat_append, flat_take', flat_drop']
  simp [List.append_assoc]
theorem row_room (l l' : List α) (sp : List AV) (n : Nat) (hn : n = Enc.w α) (h : l'.length * n ≤ sp.length) : setAt (flat l ++ sp) (l.length * n) (flat l') = flat (l ++ l') ++ sp.drop (l'.length * n) := by
  subst hn
  unfold setAt
  have e0 : l.length * Enc.w α = (flat l).length := (flat_len l).symm
  have e1 : (flat l').length = l'.length * Enc.w α := flat_len l'
  rw [e0, List.take_left, List.drop_append, e1, flat_append]
  rw [List.drop_of_length_le (by omega)]
  simp
theorem flat_rep (z : α) (k : Nat) : flat (List.replicate k z) = (List.replicate k (Enc.cells z)).flatten := by
  unfold flat; rw [List.map_replicate]
end
end Go.AB
end

section
namespace Go.AB
open Go
theorem iter_toR {P : Program} {S O : Type} {body : S → Option (S ⊕ O)} {s0 : S} {kf : O → Prop} {live : List (Nat × Bool)} {b : IC} {Q : Exit → St → Prop} {σ : St} (R : S → St → Prop)
    (h0 : R s0 (σ.keepV live))
    (hb : ∀ (J : St → Prop) (s : S) (τ : St), R s τ → ok (body s) (caseS (fun t => ∀ τ', R t τ' → J τ') kf) → cwp P b (joinK live J Q) τ) : ok (iter body s0) kf → cwp P (.loop live b) Q σ := by
  intro h
  have hmin : ∀ τ, (∃ m s, R s τ ∧ ok (iterN body m s) kf) → ∃ m, (∃ s, R s τ ∧ ok (iterN body m s) kf) ∧ ∀ k, k < m → ¬ ∃ s, R s τ ∧ ok (iterN body k s) kf := by
    rintro τ ⟨m, s, h⟩
    induction m using Nat.strongRecOn generalizing s with
    | _ m ih =>
      by_cases hk : ∃ k, k < m ∧ ∃ s, R s τ ∧ ok (iterN body k s) kf
      · obtain ⟨k, hk, s', h'⟩ := hk
        exact ih k hk s' h'
      · exact ⟨m, ⟨s, h⟩, fun k hk' hs => hk ⟨k, hk', hs⟩⟩
  have hμ : ∃ μ : St → Nat, ∀ τ, (∃ m s, R s τ ∧ ok (iterN body m s) kf) → (∃ s, R s τ ∧ ok (iterN body (μ τ) s) kf) ∧ ∀ k, k < μ τ → ¬ ∃ s, R s τ ∧ ok (iterN body k s) kf :=
    ⟨fun τ => Classical.epsilon fun m => (∃ s, R s τ ∧ ok (iterN body m s) kf) ∧ ∀ k, k < m → ¬ ∃ s, R s τ ∧ ok (iterN body k s) kf, fun τ hτ => Classical.epsilon_spec (hmin τ hτ)⟩
  obtain ⟨μ, hμ⟩ := hμ
  refine ⟨fun τ => ∃ m s, R s τ ∧ ok (iterN body m s) kf, μ, ⟨_, s0, h0, h⟩, ?_⟩
  intro τ hτ
  obtain ⟨⟨s, e, hs⟩, _⟩ := hμ τ hτ
  generalize hm : μ τ = m at hs
  cases m with
  | zero => exact (iterN_zero hs).elim
  | succ m =>
    rw [loopK_join]
    obtain ⟨x, hx, k⟩ := iterN_succ hs
    refine hb _ s τ e ⟨x, hx, ?_⟩
    cases x with
    | inr o => exact k
    | inl t =>
      intro τ' ht
      refine ⟨⟨m, t, ht, k⟩, ?_⟩
      have h2 := (hμ τ' ⟨m, t, ht, k⟩).2
      rcases Nat.lt_or_ge m (μ τ') with hlt | hge
      · exact (h2 m hlt ⟨t, ht, k⟩).elim
      · omega
theorem flat_cell2 {α : Type} [Enc α] (l : List α) (sp : List AV) {i r : Nat} (hi : i < l.length) (hr : r < Enc.w α) : (flat l ++ sp)[i * Enc.w α + r]? = (Enc.cells l[i])[r]? := by
  have hlt : i * Enc.w α + r < (flat l).length := by
    rw [flat_len]
    calc i * Enc.w α + r < (i + 1) * Enc.w α := by rw [Nat.add_mul]; omega
      _ ≤ l.length * Enc.w α := Nat.mul_le_mul_right _ hi
  rw [List.getElem?_append_left hlt]
  have h := flat_sub l (Enc.w α) i 1 rfl
  rw [Nat.one_mul, List.drop_eq_getElem_cons hi] at h
  have h2 : (AB.sub (flat l) (i * Enc.w α) (Enc.w α))[r]? = (Enc.cells l[i])[r]? := by
    rw [h]
    show (flat [l[i]])[r]? = _
    unfold flat
    simp
  rw [sub_get, if_pos hr] at h2
  exact h2
abbrev RowP := Option (Nat × Nat × List AV)
section
variable {α : Type} [Enc α]
def rowB : RowP → Nat
  | none => 0
  | some (b, _, _) => b
def rowC : RowP → Nat
  | none => 0
  | some (_, cap, _) => cap
abbrev rowA (r : RowP) (n : Nat) : AV := .arr (rowB r) 0 n (rowC r)
def rowS (s : Store) (r : RowP) (l : List α) : Store := match r with
  | none => s
  | some (b, _, sp) => s.set b (.cells (flat l ++ sp))
def RowOK (s : Store) (r : RowP) (l : List α) : Prop := match r with
  | none => l = []
  | some (b, cap, sp) => s b = none ∧ 0 < cap ∧ l.length ≤ cap ∧ (flat l ++ sp).length = cap * Enc.w α ∧ views sp = sp
theorem rowS_sub {s : Store} {r : RowP} {l : List α} (h : RowOK s r l) : Sub s (rowS s r l) := by
  cases r with
  | none => exact Sub.refl s
  | some x => exact (Sub.refl s).set h.1
theorem rowS_get {s : Store} {r : RowP} {l : List α} (h : RowOK s r l) {b : Nat} {o : SO} (hb : s b = some o) : rowS s r l b = some o := rowS_sub h b o hb
theorem row_len {s : Store} {r : RowP} {l : List α} (h : RowOK s r l) : lenV s 0 (rowA r l.length) = .tot (.int .i64 l.length) := by
  cases r with
  | none => rw [show l = [] from h]; rfl
  | some x => rfl
theorem app_row {σ : St} {d : Option Nat} {K : St → Prop} {sz by' : Nat} {s : Store} {r : RowP} {l : List α} {z v : α} (hσ : σ.s = rowS s r l) (h : RowOK s r l) (hz : sz = Enc.w α) (hr : (l.length + 1) * by' ≤ room)
    (hK : ∀ s' r', Sub s s' → RowOK s' r' (l ++ [v]) → K ({ σ with s := rowS s' r' (l ++ [v]) }.put d (rowA r' (l.length + 1)))) :
    appendAW sz by' (Enc.cells z) σ d K (rowA r l.length) (some (1, Enc.cells v)) := by
  subst hz
  have hcz : (Enc.cells z).length = Enc.w α := Enc.len z
  have hcv : flat [v] = Enc.cells v := by unfold flat; simp
  have hvz : views (Enc.cells z) = Enc.cells z := Enc.vw z
  have fresh : ∀ (s' : Store) (b' cap' : Nat), s' b' = none → l.length + 1 ≤ cap' → RowOK s' (some (b', cap', flat (List.replicate (cap' - (l.length + 1)) z))) (l ++ [v]) := fun s' b' cap' hb hc => by
    refine ⟨hb, by omega, by simpa using hc, ?_, flat_views _⟩
    rw [List.length_append, flat_len, flat_len, List.length_replicate, List.length_append, ← Nat.add_mul]
    congr 1
    simp; omega
  cases r with
  | none =>
    obtain rfl : l = [] := h
    show appendAW (Enc.w α) by' (Enc.cells z) σ d K (.arr 0 0 0 0) _
    refine appendAW_new hcz (olds := []) rfl (by simp) hr fun b' cap' hb' hc => ?_
    rw [List.nil_append, ← flat_rep, ← hcv]
    rw [hσ] at hb' ⊢
    have := hK s (some (b', cap', flat (List.replicate (cap' - (0 + 1)) z))) (Sub.refl s) (fresh s b' cap' hb' hc)
    exact this
  | some x =>
    obtain ⟨b, cap, sp⟩ := x
    obtain ⟨h1, h2, h3, h4, h5⟩ := h
    have hs : σ.s b = some (.cells (flat l ++ sp)) := by rw [hσ]; exact set_at
    show appendAW (Enc.w α) by' (Enc.cells z) σ d K (.arr b 0 l.length cap) _
    by_cases hc : l.length + 1 ≤ cap
    · refine appendAW_in hcz hs (by rw [h4, Nat.zero_add]; exact Nat.le_refl _) hc ?_
      have hsp : [v].length * Enc.w α ≤ sp.length := by
        rw [List.length_append, flat_len] at h4
        have : (l.length + 1) * Enc.w α ≤ cap * Enc.w α := Nat.mul_le_mul_right _ hc
        rw [Nat.add_mul, Nat.one_mul] at this
        simp; omega
      have st := row_room l [v] sp (Enc.w α) rfl hsp
      rw [Nat.zero_add, ← hcv, st]
      have e : σ.s.set b (.cells (flat (l ++ [v]) ++ sp.drop ([v].length * Enc.w α))) = rowS s (some (b, cap, sp.drop ([v].length * Enc.w α))) (l ++ [v]) := by
        rw [hσ]
        show (s.set b _).set b _ = s.set b _
        exact set_set ..
      rw [e]
      refine hK s _ (Sub.refl s) ⟨h1, h2, by simpa using hc, ?_, ?_⟩
      · rw [List.length_append, flat_len] at h4 ⊢
        rw [List.length_drop, List.length_append, Nat.add_mul]
        omega
      · unfold views at h5 ⊢
        rw [List.map_drop, h5]
    · refine appendAW_new hcz (oldsV_arr hs (by
        rw [Nat.zero_add, h4]; exact Nat.mul_le_mul_right _ h3)) (by omega) hr fun b' cap' hb' hc' => ?_
      have ho : views (AB.sub (flat l ++ sp) 0 (l.length * Enc.w α)) = flat l := by
        have := row_sub l sp (Enc.w α) 0 l.length rfl (by omega)
        rw [Nat.zero_mul] at this
        rw [this, List.drop_zero, List.take_length, flat_views]
      rw [ho, ← flat_rep, ← hcv, ← flat_append]
      rw [hσ] at hb' ⊢
      have hb0 : (s.set b (.cells (flat l ++ sp))) b' = none := hb'
      exact hK (s.set b (.cells (flat l ++ sp))) (some (b', cap', flat (List.replicate (cap' - (l.length + 1)) z))) ((Sub.refl s).set h1) (fresh _ b' cap' hb0 hc')
theorem row_at {s : Store} {r : RowP} {l : List α} (h : RowOK s r l) (hl : 0 < l.length) : ∃ b cap sp, r = some (b, cap, sp) := by
  cases r with
  | none => rw [show l = [] from h] at hl; simp at hl
  | some x => exact ⟨_, _, _, rfl⟩
theorem row_upd {s : Store} {b cap : Nat} {sp : List AV} {l l' : List α} (h : RowOK s (some (b, cap, sp)) l) (hl : l'.length = l.length) : RowOK s (some (b, cap, sp)) l' := by
  obtain ⟨h1, h2, h3, h4, h5⟩ := h
  exact ⟨h1, h2, by omega, by rw [List.length_append, flat_len] at h4 ⊢; rw [hl]; exact h4, h5⟩
theorem frz_row {σ : St} {d : Option Nat} {K : St → Prop} {sz : Nat} {s : Store} {r : RowP} {l : List α} (hσ : σ.s = rowS s r l) (h : RowOK s r l) (hz : sz = Enc.w α)
    (hK : K ({ σ with s := s }.put d (.sl true sz l.length (flat l)))) : frzW sz true σ d K (rowA r l.length) := by
  subst hz
  cases r with
  | none =>
    obtain rfl : l = [] := h
    show frzW (Enc.w α) true σ d K (.arr 0 0 0 0)
    refine .inl ⟨rfl, rfl, rfl, ?_⟩
    have e : { σ with s := s } = σ := by
      have : σ.s = s := hσ
      rw [← this]
    rw [e] at hK
    exact hK
  | some x =>
    obtain ⟨b, cap, sp⟩ := x
    obtain ⟨h1, h2, h3, h4, h5⟩ := h
    have hs : σ.s b = some (.cells (flat l ++ sp)) := by rw [hσ]; exact set_at
    show frzW (Enc.w α) true σ d K (.arr b 0 l.length cap)
    refine .inr ⟨h2, h3, fun _ => ⟨rfl, ?_, ?_⟩, ?_⟩
    · rw [hs]; show 0 + cap * Enc.w α ≤ _; rw [h4]; omega
    · rw [hs]; show _ = 0 + cap * Enc.w α; rw [h4]; omega
    · have ho : views (AB.sub (flat l ++ sp) 0 (l.length * Enc.w α)) = flat l := by
        have := row_sub l sp (Enc.w α) 0 l.length rfl (by omega)
        rw [Nat.zero_mul] at this
        rw [this, List.drop_zero, List.take_length, flat_views]
      rw [hs]
      show frzW.frzK _ _ σ d K b l.length (bif decide (0 + l.length * Enc.w α ≤ (flat l ++ sp).length) then some (l.length, views (AB.sub (flat l ++ sp) 0 (l.length * Enc.w α))) else none)
      rw [decide_eq_true (by rw [Nat.zero_add, h4]; exact Nat.mul_le_mul_right _ h3), ho]
      have e : σ.s.del b = s := by
        rw [hσ]
        exact del_set h1
      show K ({ σ with s := σ.s.del b }.put d (.sl true _ l.length (flat l)))
      rw [e]; exact hK
end
end Go.AB
end

section
set_option maxRecDepth 4000
namespace Go.AB
open Go
structure api_Value where
  Kind : Int
  N : Int
  S : Str
  L : (List api_Value)
mutual
def api_ValueC : api_Value → List AV
  | ⟨k, n, s, l⟩ => [.int .i64 k, .int .i64 n, .str s.b, .sl false 4 l.length (api_ValueL l)]
def api_ValueL : List api_Value → List AV
  | [] => []
  | v :: l => api_ValueC v ++ api_ValueL l
end
theorem api_ValueC_v (x : api_Value) : views (api_ValueC x) = api_ValueC x := by cases x; simp [api_ValueC, views, view]
theorem api_ValueC_l (x : api_Value) : (api_ValueC x).length = 4 := by cases x; simp [api_ValueC]
instance : Enc api_Value := ⟨4, api_ValueC, ⟨0, 0, ⟨[]⟩, []⟩, by decide, api_ValueC_l, api_ValueC_v⟩
theorem api_ValueL_flat : ∀ l : List api_Value, api_ValueL l = flat l
  | [] => by rw [api_ValueL]; rfl
  | v :: l => by rw [api_ValueL, api_ValueL_flat l]; rfl
@[go_sem] theorem cells_api_Value (x : api_Value) : Enc.cells x = [.int .i64 x.Kind, .int .i64 x.N, .str x.S.b, .sl false 4 x.L.length (flat x.L)] := by
  cases x
  show api_ValueC _ = _
  rw [api_ValueC, api_ValueL_flat]
@[go_sem] theorem w_api_Value : Enc.w api_Value = 4 := rfl
@[go_sem] theorem pad_api_Value (l : List api_Value) (i : Int) : pad [.int .i64 0, .int .i64 0, .str [], .sl false 4 0 []] (views (AB.sub (flat l) (i.toNat * 4) 4)) = [.int .i64 ((ix l i).Kind), .int .i64 ((ix l i).N), .str ((ix l i).S).b, .sl false 4 ((ix l i).L).length (flat ((ix l i).L))] := by
  rw [← cells_api_Value]; exact flat_pad _ 4 l i (by rw [cells_api_Value]; rfl) rfl
@[go_sem] theorem mk_api_Value (x : api_Value) : api_Value.mk x.Kind x.N x.S x.L = x := by cases x; rfl
attribute [-go_sem] xwp_cons xwpK_eq xalt_cons xalt_nil
theorem x_to {P : Program} {X : Prop} {deps : List (List Bool)} {ops f : List IOper} {live : List Nat} {Q : Exit → St → Prop} {d : List Bool} {σ φ : St}
    (h1 : ∀ Q' : St → Prop, Q' φ → xwp P deps ops (fun τ => Q' (τ.keep live)) f d σ) (h2 : X → Q .normal φ) : X → xwp P deps ops (regK live Q) f d σ := fun x => h1 (fun τ => Q .normal τ) (h2 x)
@[go_sem] theorem ble11 : Nat.ble 1 1 = true := rfl
@[go_sem] theorem ble12 : Nat.ble 1 2 = true := rfl
@[go_sem] theorem ble13 : Nat.ble 1 3 = true := rfl
@[go_sem] theorem ble14 : Nat.ble 1 4 = true := rfl
@[go_sem] theorem ble16 : Nat.ble 1 6 = true := rfl
@[go_sem] theorem part0_V (l : List api_Value) (hi : Int) : AB.sub (flat l) 0 (hi.toNat * 4) = flat (part l 0 hi) := by
  have := flat_part 4 l 0 hi rfl
  rw [Int.sub_zero] at this
  exact this
@[go_sem] theorem part0 {α : Type} [Enc α] (n : Nat) (l : List α) (hi : Int) (hn : n = Enc.w α) : AB.sub (flat l) 0 (hi.toNat * n) = flat (part l 0 hi) := by
  have := flat_part n l 0 hi hn
  rwa [Int.sub_zero, show ((0 : Int).toNat * n) = 0 from by simp] at this
theorem call_to_gv {β : Type} {g : Bool} {z : β} {o : Option β} {kf : β → Prop} {P : Program} {f : FuncId} {as2 : List AV} {s : Store} {enc : β → List AV} {Q : List AV → Prop} {C : FuncId → List AV → Prop}
    (ha : g = true → C f as2) (hok : fnOK P f = true) (hf : ∀ r, o = some r → FE P f as2 s (enc r) s) (hr : ∀ r, rsOK (enc r) = true) (hk : ∀ r, kf r → Q (enc r)) :
    ok (whenB g z o) kf → ∃ rs, rsOK rs = true ∧ (g = true → ∃ f as2, C f as2 ∧ fnOK P f = true ∧ FE P f as2 s rs s) ∧ Q rs := fun h => by
  rw [ok_when] at h
  obtain ⟨r, h1, _, k⟩ := h
  exact ⟨enc r, hr r, fun hg => ⟨f, as2, ha hg, hok, hf r (h1 hg)⟩, hk r k⟩
theorem callee_w {t : Nat} {args : List IX} {b : Bool} {σ : St} {f : FuncId} {as2 : List AV} (h : σ.x (.t t) = .when b (.fn f [] [])) (ha : argsV (xg b σ) args = some as2) : callee (.t t) args b σ f as2 :=
  ⟨[], [], as2, by unfold xg; rw [h]; cases b <;> rfl, ha, by simp⟩
@[go_sem] theorem ix_toNat {α : Type} [Enc α] (l : List α) (i : Int) : ix l ((i.toNat : Nat) : Int) = ix l i := rfl
@[go_sem] theorem pad_int_n (l : List Int) (n : Nat) : pad [.int .i64 0] (views (AB.sub (flat l) (n * 1) 1)) = [.int .i64 (ix l (n : Int))] := pad_int l n
theorem FN_cast {P : Program} {f : FuncId} {as1 as2 : List AV} {s : Store} {Q : List AV → Store → Prop} (e : as1 = as2) (h : FN P f as1 s Q) : FN P f as2 s Q := e ▸ h
theorem im_and {c p : Bool} {A : Prop} (h : p = true → A) : (c && p) = true → A := fun hh => h (by cases c <;> simp_all)
theorem lit_t {X A B : Prop} (h : X → A) : X → (true = true → A) ∧ (true = false → B) := fun x => ⟨fun _ => h x, fun e => (by cases e)⟩
theorem lit_f {X A B : Prop} (h : X → B) : X → (false = true → A) ∧ (false = false → B) := fun x => ⟨fun e => (by cases e), fun _ => h x⟩
theorem lit_t2 {X A B : Prop} (h : X → A) : X → (True → A) ∧ (true = false → B) := fun x => ⟨fun _ => h x, fun e => (by cases e)⟩
theorem lit_f2 {X A B : Prop} (h : X → B) : X → (false = true → A) ∧ (True → B) := fun x => ⟨fun e => (by cases e), fun _ => h x⟩
def strings_Builder_WriteByte (b : Bld) (c : UInt8) : Option Bld := none
theorem strings_Builder_WriteByte_fn {b_0 : Bld} {c_1 : UInt8} {B0 : Nat} {preB0 postB0 : List AV} {oB0 : Nat} {s : Store} {Q : List AV → Store → Prop} (hB0 : s B0 = some (.cells (Wi preB0 [b_0.a, b_0.b] postB0))) (eB0 : preB0.length = oB0) :
    ok (strings_Builder_WriteByte b_0 c_1) (fun r => Q [.one] (s.set B0 (.cells (Wi preB0 [r.a, r.b] postB0)))) → FN Go.Proofs.Tryz.prog 301 [.ref B0 oB0, .int .u8 c_1.toNat] s Q := fun ⟨_, h, _⟩ => by cases h
def strings_Builder_String (b : Bld) : Option (Str × Bld) := none
theorem strings_Builder_String_fn {b_0 : Bld} {B0 : Nat} {preB0 postB0 : List AV} {oB0 : Nat} {s : Store} {Q : List AV → Store → Prop} (hB0 : s B0 = some (.cells (Wi preB0 [b_0.a, b_0.b] postB0))) (eB0 : preB0.length = oB0) :
    ok (strings_Builder_String b_0) (fun r => Q [.str r.1.b] (s.set B0 (.cells (Wi preB0 [r.2.a, r.2.b] postB0)))) → FN Go.Proofs.Tryz.prog 300 [.ref B0 oB0] s Q := fun ⟨_, h, _⟩ => by cases h
structure lex_scan where
  Builder : Bld
  b_ : (List UInt8)
  at_ : Int
  last_ : Bool
def lex_scan_octal (s_0 : lex_scan) (x_1 : UInt8) : Option (Bool × lex_scan) := none
theorem lex_scan_octal_fn {s_0 : lex_scan} {x_1 : UInt8} {B0 : Nat} {s : Store} {Q : List AV → Store → Prop} (hB0 : s B0 = some (.cells [s_0.Builder.a, s_0.Builder.b, .sl false 1 s_0.b_.length (flat s_0.b_), .int .i64 s_0.at_, .bool s_0.last_])) : ok (lex_scan_octal s_0 x_1) (fun r => Q [.bool r.1] (s.set B0 (.cells [r.2.Builder.a, r.2.Builder.b, .sl false 1 r.2.b_.length (flat r.2.b_), .int .i64 r.2.at_, .bool r.2.last_]))) → FN Go.Proofs.Tryz.prog 332 [.ref B0 0, .int .u8 x_1.toNat] s Q := fun ⟨_, h, _⟩ => by cases h
def lex_name (x_0 : Str) : Option (api_Value × Int) := none
theorem lex_name_fn {x_0 : Str} {s : Store} {Q : List AV → Store → Prop} : ok (lex_name x_0) (fun r => Q [.agg [.int .i64 r.1.Kind, .int .i64 r.1.N, .str r.1.S.b, .sl false 4 r.1.L.length (flat r.1.L)], .int .i64 r.2] s) → FN Go.Proofs.Tryz.prog 261 [.str x_0.b] s Q := fun ⟨_, h, _⟩ => by cases h
theorem lex_name_fe {x_0 : Str} {s : Store} {r : api_Value × Int} (h : lex_name x_0 = some r) : FE Go.Proofs.Tryz.prog 261 [.str x_0.b] s [.agg [.int .i64 r.1.Kind, .int .i64 r.1.N, .str r.1.S.b, .sl false 4 r.1.L.length (flat r.1.L)], .int .i64 r.2] s := lex_name_fn ⟨r, h, rfl, rfl⟩
structure lex_Token where
  Kind : Int
  From : Int
  To : Int
  V : api_Value
  S : Str
instance : Enc lex_Token := ⟨8, fun x => [.int .i64 x.Kind, .int .i64 x.From, .int .i64 x.To, .int .i64 x.V.Kind, .int .i64 x.V.N, .str x.V.S.b, .sl false 4 x.V.L.length (flat x.V.L), .str x.S.b], (lex_Token.mk 0 0 0 (api_Value.mk 0 0 (Str.mk []) []) (Str.mk [])), by decide, fun _ => rfl, fun _ => rfl⟩
@[go_sem] theorem cells_lex_Token (x : lex_Token) : Enc.cells x = [.int .i64 x.Kind, .int .i64 x.From, .int .i64 x.To, .int .i64 x.V.Kind, .int .i64 x.V.N, .str x.V.S.b, .sl false 4 x.V.L.length (flat x.V.L), .str x.S.b] := rfl
@[go_sem] theorem w_lex_Token : Enc.w lex_Token = 8 := rfl
@[go_sem] theorem pad_lex_Token (l : List lex_Token) (i : Int) : pad [.int .i64 0, .int .i64 0, .int .i64 0, .int .i64 0, .int .i64 0, .str [], .sl false 4 0 [], .str []] (views (AB.sub (flat l) (i.toNat * 8) 8)) = [.int .i64 ((ix l i).Kind), .int .i64 ((ix l i).From), .int .i64 ((ix l i).To), .int .i64 (((ix l i).V).Kind), .int .i64 (((ix l i).V).N), .str (((ix l i).V).S).b, .sl false 4 (((ix l i).V).L).length (flat (((ix l i).V).L)), .str ((ix l i).S).b] := by
  rw [← cells_lex_Token]; exact flat_pad _ 8 l i (by rw [cells_lex_Token]; rfl) rfl
@[go_sem] theorem mk_lex_Token (x : lex_Token) : lex_Token.mk x.Kind x.From x.To x.V x.S = x := by cases x; rfl
def lex_Space (c_0 : UInt8) : Option (Bool) :=
  some (((((((c_0.toNat : Int) == 0) || ((c_0.toNat : Int) == 9)) || ((c_0.toNat : Int) == 10)) || ((c_0.toNat : Int) == 12)) || ((c_0.toNat : Int) == 13)) || ((c_0.toNat : Int) == 32))
def ir_lex_Space : IC :=
 (.seq (.reg none [i1 2 (.mov false (.c (.bool false)))] [0])
 (.seq (.reg none [mv 3 0,
 i1 4 (.bin .eql (.t 3) (.c (.int .u8 0))),
 mv 5 4,
 mvg 6 0 5 false,
 i1g 7 5 false (.bin .eql (.t 6) (.c (.int .u8 9))),
 i1 8 (.pick (.t 5) (.c (.bool true)) (.t 7)),
 mv 9 8,
 mvg 10 0 9 false,
 i1g 11 9 false (.bin .eql (.t 10) (.c (.int .u8 10))),
 i1 12 (.pick (.t 9) (.c (.bool true)) (.t 11)),
 mv 13 12,
 mvg 14 0 13 false,
 i1g 15 13 false (.bin .eql (.t 14) (.c (.int .u8 12))),
 i1 16 (.pick (.t 13) (.c (.bool true)) (.t 15)),
 mv 17 16,
 mvg 18 0 17 false,
 i1g 19 17 false (.bin .eql (.t 18) (.c (.int .u8 13))),
 i1 20 (.pick (.t 17) (.c (.bool true)) (.t 19)),
 mv 21 20,
 mvg 22 0 21 false,
 i1g 23 21 false (.bin .eql (.t 22) (.c (.int .u8 32))),
 i1 24 (.pick (.t 21) (.c (.bool true)) (.t 23)),
 mv 2 24] [2])
 .ret))
def res_lex_Space : List IRes := [⟨2, true, none⟩]
theorem is_lex_Space : fnIs Go.Proofs.Tryz.prog 130 25 res_lex_Space ir_lex_Space = true := by kernel_rfl
theorem lex_Space_fn {c_0} {s : Store} {Q : List AV → Store → Prop}  : ok (lex_Space c_0) (fun r => Q [.bool r] s) → FN Go.Proofs.Tryz.prog 130 [.int .u8 c_0.toNat] s Q := by
  intro h
  refine FN.of (draw_ok mix) is_lex_Space rfl (Nat.le_of_ble_eq_true rfl) ?_
  revert h
  rw [ir_lex_Space, res_lex_Space, lex_Space]
  repeat' (first
    | simp -implicitDefEqProofs only [go_sem, start, startE, resVs, resV, resC, allV, retK, Nat.reduceBEq, Nat.reduceAdd, Nat.reduceMul, Nat.reduceLeDiff, Nat.reduceEqDiff, Nat.reduceBNe, Nat.ble_eq, UInt8.reduceToNat, UInt32.reduceToNat])
theorem lex_Space_fe {c_0} {s : Store} {r : Bool}  (h : lex_Space c_0 = some r) : FE Go.Proofs.Tryz.prog 130 [.int .u8 c_0.toNat] s [.bool r] s := lex_Space_fn  ⟨r, h, rfl, rfl⟩
def lex_Skip (b_0 : (List UInt8)) (at_1 : Int) : Option (Int) :=
  if decide (at_1 < 0) then
    some 0
  else
    jnS (
      bndS (
        iter (fun ((at3, comment4) : Int × Bool) =>
          if decide (at3 < (b_0.length : Int)) then
            jnS (
              need (0 ≤ at3 ∧ at3 < b_0.length) <|
              if comment4 then
                some (.inl ((((ix b_0 at3).toNat : Int) != 10) && (((ix b_0 at3).toNat : Int) != 13)))
              else
                if ((ix b_0 at3).toNat : Int) == 37 then
                  some (.inl true)
                else
                  bnd (lex_Space (ix b_0 at3)) fun r11 =>
                  if !r11 then
                    some (.inr at3)
                  else
                    some (.inl comment4)) (fun (comment9 : Bool) =>
              some (.inl (w64 (at3 + 1), comment9)))
            (fun (t10 : Int) => some (.inr (.inr t10)))
          else
            some (.inr (.inl ()))) (at_1, false)) (fun (_ : Unit) =>
        some (.inl ()))
      (fun (t6 : Int) => some (.inr t6))) (fun (_ : Unit) =>
      some (b_0.length : Int))
    (fun (t2 : Int) => some t2)
def ir_lex_Skip : IC :=
 (.seq (.reg none [i1 4 (.mov false (.c (.int .i64 0)))] [0, 1])
 (.seq (.seq (.reg none [mv 7 1,
 i1 8 (.bin .lss (.t 7) (.c (.int .i64 0)))] [0, 1, 8])
 (.cond (.t 8) (.seq (.reg none [i1 4 (.mov false (.c (.int .i64 0)))] [4])
 .ret)
 .skip))
 (.seq (.reg none [i1 5 (.mov false (.c (.bool false)))] [0, 1, 5])
 (.join [(0, true)] (.block 0 (.loop [(0, true), (1, false), (5, false)] (.seq (.seq (.reg none [mv 9 1,
 mv 10 0,
 i1 11 (.len 0 (.t 10)),
 i1 12 (.bin .lss (.t 9) (.t 11))] [0, 1, 5, 12])
 (.cond (.t 12) .skip
 (.exit 0)))
 (.join [(0, true), (1, false), (5, false)] (.block 1 (.seq (.reg none [mv 15 0,
 mv 16 1,
 i1 17 (.indexAddr [.int .u8 0] (.t 15) (.t 16)),
 i1 18 (.load 1 false (.t 17)),
 mv 6 18] [0, 1, 5, 6])
 (.block 2 (.seq (.reg none [mv 20 5,
 mv 19 20] [0, 1, 5, 6, 19])
 (.cond (.t 19) (.reg none [mv 21 6,
 i1 22 (.bin .neq (.t 21) (.c (.int .u8 10))),
 mv 23 22,
 mvg 24 6 23 true,
 i1g 25 23 true (.bin .neq (.t 24) (.c (.int .u8 13))),
 i1 26 (.pick (.t 23) (.t 25) (.c (.bool false))),
 mv 5 26] [0, 1, 5])
 (.seq (.reg none [mv 28 6,
 i1 29 (.bin .eql (.t 28) (.c (.int .u8 37))),
 mv 27 29] [0, 1, 5, 6, 27])
 (.cond (.t 27) (.reg none [i1 5 (.mov false (.c (.bool true)))] [0, 1, 5])
 (.seq (.reg none [mv 31 6,
 i1 32 (.call 130 [(.t 31)]),
 i1 33 (.un .not (.t 32)),
 mv 30 33] [0, 1, 5, 30])
 (.cond (.t 30) (.seq (.reg none [mv 34 1,
 mv 4 34] [4])
 .ret)
 .skip)))))))))
 (.reg none [mv 13 1,
 i1 14 (.bin .add (.t 13) (.c (.int .i64 1))),
 mv 1 14] [0, 1, 5])))))
 (.seq (.reg none [mt 35 0,
 i1 36 (.len 0 (.t 35)),
 mv 4 36] [4])
 .ret)))))
def res_lex_Skip : List IRes := [⟨4, true, none⟩]
theorem is_lex_Skip : fnIs Go.Proofs.Tryz.prog 225 37 res_lex_Skip ir_lex_Skip = true := by kernel_rfl
theorem lex_Skip_fn {b_0 at_1} {s : Store} {Q : List AV → Store → Prop}  : ok (lex_Skip b_0 at_1) (fun r => Q [.int .i64 r] s) → FN Go.Proofs.Tryz.prog 225 [.sl false 1 b_0.length (flat b_0), .int .i64 at_1] s Q := by
  intro h
  refine FN.of (draw_ok mix) is_lex_Skip rfl (Nat.le_of_ble_eq_true rfl) ?_
  revert h
  rw [ir_lex_Skip, res_lex_Skip, lex_Skip]
  repeat' (first
    | with_reducible exact tt_to
    | with_reducible refine and_to ?_ ?_
    | with_reducible refine im_to ?_
    | with_reducible refine call_to (fun _ (h : lex_Space (ix b_0 at3) = some _) => lex_Space_fe h) (fun r11 => ?_)
    | ((with_reducible refine join_toS (live := [(0, true), (1, false), (5, false)]) (fun (comment9 : Bool) => ⟨[(0, .sl false 1 b_0.length (flat b_0)), (1, .int .i64 at3), (5, .bool comment9)], [], s⟩) (fun J => ?_) ?_); rotate_left; rintro comment9)
    | ((with_reducible refine iter_to (fun ((at3, comment4) : Int × Bool) => ⟨[(0, .sl false 1 b_0.length (flat b_0)), (1, .int .i64 at3), (5, .bool comment4)], [], s⟩) ?_ ?_); (first | exact rfl | simp -implicitDefEqProofs only [go_sem, start, startE, resVs, resV, resC, allV, retK, Nat.reduceBEq, Nat.reduceAdd, Nat.reduceMul, Nat.reduceLeDiff, Nat.reduceEqDiff, Nat.reduceBNe, Nat.ble_eq, UInt8.reduceToNat, UInt32.reduceToNat]); rintro J ⟨at3, comment4⟩)
    | ((with_reducible refine join_toS (live := [(0, true)]) (fun (_ : Unit) => ⟨[(0, .sl false 1 b_0.length (flat b_0))], [], s⟩) (fun J => ?_) ?_); rotate_left; rintro _)
    | simp -implicitDefEqProofs only [go_sem, start, startE, resVs, resV, resC, allV, retK, Nat.reduceBEq, Nat.reduceAdd, Nat.reduceMul, Nat.reduceLeDiff, Nat.reduceEqDiff, Nat.reduceBNe, Nat.ble_eq, UInt8.reduceToNat, UInt32.reduceToNat])
theorem lex_Skip_fe {b_0 at_1} {s : Store} {r : Int}  (h : lex_Skip b_0 at_1 = some r) : FE Go.Proofs.Tryz.prog 225 [.sl false 1 b_0.length (flat b_0), .int .i64 at_1] s [.int .i64 r] s := lex_Skip_fn  ⟨r, h, rfl, rfl⟩
def strings_IndexByte (s_0 : Str) (c_1 : UInt8) : Option (Int) :=
  bnd (stringslite_IndexByte s_0 c_1) fun r1 =>
  some r1
def ir_strings_IndexByte : IC :=
 (.seq (.reg none [i1 4 (.mov false (.c (.int .i64 0)))] [0, 1])
 (.seq (.reg none [mv 5 0,
 mv 6 1,
 i1 7 (.call 224 [(.t 5), (.t 6)]),
 mv 4 7] [4])
 .ret))
def res_strings_IndexByte : List IRes := [⟨4, true, none⟩]
theorem is_strings_IndexByte : fnIs Go.Proofs.Tryz.prog 181 8 res_strings_IndexByte ir_strings_IndexByte = true := by kernel_rfl
theorem strings_IndexByte_fn {s_0 c_1} {s : Store} {Q : List AV → Store → Prop}  : ok (strings_IndexByte s_0 c_1) (fun r => Q [.int .i64 r] s) → FN Go.Proofs.Tryz.prog 181 [.str s_0.b, .int .u8 c_1.toNat] s Q := by
  intro h
  refine FN.of (draw_ok mix) is_strings_IndexByte rfl (Nat.le_of_ble_eq_true rfl) ?_
  revert h
  rw [ir_strings_IndexByte, res_strings_IndexByte, strings_IndexByte]
  repeat' (first
    | with_reducible refine call_to (fun _ (h : stringslite_IndexByte s_0 c_1 = some _) => stringslite_IndexByte_fe h) (fun r1 => ?_)
    | simp -implicitDefEqProofs only [go_sem, start, startE, resVs, resV, resC, allV, retK, Nat.reduceBEq, Nat.reduceAdd, Nat.reduceMul, Nat.reduceLeDiff, Nat.reduceEqDiff, Nat.reduceBNe, Nat.ble_eq, UInt8.reduceToNat, UInt32.reduceToNat])
theorem strings_IndexByte_fe {s_0 c_1} {s : Store} {r : Int}  (h : strings_IndexByte s_0 c_1 = some r) : FE Go.Proofs.Tryz.prog 181 [.str s_0.b, .int .u8 c_1.toNat] s [.int .i64 r] s := strings_IndexByte_fn  ⟨r, h, rfl, rfl⟩
def lex_Delim (c_0 : UInt8) : Option (Bool) :=
  bnd (strings_IndexByte (Str.mk [40, 41, 60, 62, 91, 93, 123, 125, 47, 37]) c_0) fun r1 =>
  some (decide (r1 ≥ 0))
def ir_lex_Delim : IC :=
 (.seq (.reg none [i1 2 (.mov false (.c (.bool false)))] [0])
 (.seq (.reg none [mv 3 0,
 i1 4 (.call 181 [(.c (.str [40, 41, 60, 62, 91, 93, 123, 125, 47, 37])), (.t 3)]),
 i1 5 (.bin .geq (.t 4) (.c (.int .i64 0))),
 mv 2 5] [2])
 .ret))
def res_lex_Delim : List IRes := [⟨2, true, none⟩]
theorem is_lex_Delim : fnIs Go.Proofs.Tryz.prog 131 6 res_lex_Delim ir_lex_Delim = true := by kernel_rfl
theorem lex_Delim_fn {c_0} {s : Store} {Q : List AV → Store → Prop}  : ok (lex_Delim c_0) (fun r => Q [.bool r] s) → FN Go.Proofs.Tryz.prog 131 [.int .u8 c_0.toNat] s Q := by
  intro h
  refine FN.of (draw_ok mix) is_lex_Delim rfl (Nat.le_of_ble_eq_true rfl) ?_
  revert h
  rw [ir_lex_Delim, res_lex_Delim, lex_Delim]
  repeat' (first
    | with_reducible refine call_to (fun _ (h : strings_IndexByte (Str.mk [40, 41, 60, 62, 91, 93, 123, 125, 47, 37]) c_0 = some _) => strings_IndexByte_fe h) (fun r1 => ?_)
    | simp -implicitDefEqProofs only [go_sem, start, startE, resVs, resV, resC, allV, retK, Nat.reduceBEq, Nat.reduceAdd, Nat.reduceMul, Nat.reduceLeDiff, Nat.reduceEqDiff, Nat.reduceBNe, Nat.ble_eq, UInt8.reduceToNat, UInt32.reduceToNat])
theorem lex_Delim_fe {c_0} {s : Store} {r : Bool}  (h : lex_Delim c_0 = some r) : FE Go.Proofs.Tryz.prog 131 [.int .u8 c_0.toNat] s [.bool r] s := lex_Delim_fn  ⟨r, h, rfl, rfl⟩
def lex_regular (c_0 : UInt8) : Option (Bool) :=
  bnd (lex_Space c_0) fun r1 =>
  bnd (whenB (!r1) false (lex_Delim c_0)) fun r2 =>
  some ((!r1) && (!r2))
def ir_lex_regular : IC :=
 (.seq (.reg none [i1 2 (.mov false (.c (.bool false)))] [0])
 (.seq (.reg (some 6) [mv 3 0,
 i1 4 (.call 130 [(.t 3)]),
 i1 5 (.un .not (.t 4)),
 mv 6 5,
 mvg 7 0 6 true,
 i1g 8 6 true (.call 131 [(.t 7)]),
 i1g 9 6 true (.un .not (.t 8)),
 i1 10 (.pick (.t 6) (.t 9) (.c (.bool false))),
 mv 2 10] [2])
 .ret))
def res_lex_regular : List IRes := [⟨2, true, none⟩]
theorem is_lex_regular : fnIs Go.Proofs.Tryz.prog 255 11 res_lex_regular ir_lex_regular = true := by kernel_rfl
theorem lex_regular_fn {c_0} {s : Store} {Q : List AV → Store → Prop}  : ok (lex_regular c_0) (fun r => Q [.bool r] s) → FN Go.Proofs.Tryz.prog 255 [.int .u8 c_0.toNat] s Q := by
  intro h
  refine FN.of (draw_ok mix) is_lex_regular rfl (Nat.le_of_ble_eq_true rfl) ?_
  revert h
  rw [ir_lex_regular, res_lex_regular, lex_regular]
  repeat' (first
    | with_reducible refine call_to_q (fun _ (h : lex_Space c_0 = some _) => lex_Space_fe h) (fun _ => rfl) (fun r1 => ?_)
    | with_reducible refine call_to_g rfl (fun _ (h : lex_Delim c_0 = some _) => lex_Delim_fe h) (fun _ => rfl) (fun r2 => ?_)
    | simp -implicitDefEqProofs only [go_sem, start, startE, resVs, resV, resC, allV, retK, Nat.reduceBEq, Nat.reduceAdd, Nat.reduceMul, Nat.reduceLeDiff, Nat.reduceEqDiff, Nat.reduceBNe, Nat.ble_eq, UInt8.reduceToNat, UInt32.reduceToNat])
theorem lex_regular_fe {c_0} {s : Store} {r : Bool}  (h : lex_regular c_0 = some r) : FE Go.Proofs.Tryz.prog 255 [.int .u8 c_0.toNat] s [.bool r] s := lex_regular_fn  ⟨r, h, rfl, rfl⟩
def lex_scan_word (s_0 : lex_scan) : Option (Str × Bool × lex_scan) :=
  jn (
    iter (fun (o3 : lex_scan) =>
      need ((decide (o3.at_ < (o3.b_.length : Int))) = true → 0 ≤ o3.at_ ∧ o3.at_ < o3.b_.length) <|
      bnd (whenB (decide (o3.at_ < (o3.b_.length : Int))) false (lex_regular (ix o3.b_ o3.at_))) fun r6 =>
      if (decide (o3.at_ < (o3.b_.length : Int))) && r6 then
        some (.inl (lex_scan.mk o3.Builder o3.b_ (w64 (o3.at_ + 1)) o3.last_))
      else
        some (.inr o3)) s_0) fun (o2 : lex_scan) =>
  need (0 ≤ s_0.at_ ∧ s_0.at_ ≤ o2.at_ ∧ o2.at_ ≤ o2.b_.length) <|
  some (Str.mk (part o2.b_ s_0.at_ o2.at_), (decide (o2.at_ < (o2.b_.length : Int))) || o2.last_, o2)
def ir_lex_scan_word : IC :=
 (.seq (.reg none [i1 2 (.mov false (.c (.str []))),
 i1 3 (.mov false (.c (.bool false)))] [0])
 (.seq (.reg none [mv 5 0,
 i1 6 (.nilCheck (.t 5)),
 i1 7 (.fieldAddr 3 (.t 6)),
 i1 8 (.loadR [.int .i64 0] false (.t 7)),
 mv 4 8] [0, 4])
 (.join [(0, false), (4, false)] (.block 0 (.loop [(0, false), (4, false)] (.seq (.seq (.reg (some 23) [mv 9 0,
 i1 10 (.nilCheck (.t 9)),
 i1 11 (.fieldAddr 3 (.t 10)),
 i1 12 (.loadR [.int .i64 0] false (.t 11)),
 mv 13 0,
 i1 14 (.nilCheck (.t 13)),
 i1 15 (.fieldAddr 2 (.t 14)),
 i1 16 (.loadR [.sl false 1 0 []] false (.t 15)),
 i1 17 (.len 0 (.t 16)),
 i1 18 (.bin .lss (.t 12) (.t 17)),
 mv 19 18,
 mvg 20 0 19 true,
 i1g 21 19 true (.nilCheck (.t 20)),
 i1g 22 19 true (.fieldAddr 2 (.t 21)),
 i1g 23 19 true (.loadR [.sl false 1 0 []] false (.t 22)),
 mvg 24 0 19 true,
 i1g 25 19 true (.nilCheck (.t 24)),
 i1g 26 19 true (.fieldAddr 3 (.t 25)),
 i1g 27 19 true (.loadR [.int .i64 0] false (.t 26)),
 i1g 28 19 true (.indexAddr [.int .u8 0] (.t 23) (.t 27)),
 i1g 29 19 true (.load 1 false (.t 28)),
 i1g 30 19 true (.call 255 [(.t 29)]),
 i1 31 (.pick (.t 19) (.t 30) (.c (.bool false)))] [0, 4, 31])
 (.cond (.t 31) .skip
 (.exit 0)))
 (.block 1 (.reg none [mv 32 0,
 i1 33 (.nilCheck (.t 32)),
 i1 34 (.fieldAddr 3 (.t 33)),
 i1 35 (.loadR [.int .i64 0] false (.t 34)),
 i1 36 (.bin .add (.t 35) (.c (.int .i64 1))),
 i1 37 (.nilCheck (.t 32)),
 i1 38 (.fieldAddr 3 (.t 37)),
 i0 (.store 1 (.t 38) (.t 36))] [0, 4])))))
 (.seq (.reg (some 29) [mv 39 0,
 i1 40 (.nilCheck (.t 39)),
 i1 41 (.fieldAddr 2 (.t 40)),
 i1 42 (.loadR [.sl false 1 0 []] false (.t 41)),
 mv 43 4,
 mv 44 0,
 i1 45 (.nilCheck (.t 44)),
 i1 46 (.fieldAddr 3 (.t 45)),
 i1 47 (.loadR [.int .i64 0] false (.t 46)),
 i1 48 (.slice 1 (.t 42) (some (.t 43)) (some (.t 47)) none),
 i1 49 (.cvtStr (.t 48)),
 mv 50 0,
 i1 51 (.nilCheck (.t 50)),
 i1 52 (.fieldAddr 3 (.t 51)),
 i1 53 (.loadR [.int .i64 0] false (.t 52)),
 mv 54 0,
 i1 55 (.nilCheck (.t 54)),
 i1 56 (.fieldAddr 2 (.t 55)),
 i1 57 (.loadR [.sl false 1 0 []] false (.t 56)),
 i1 58 (.len 0 (.t 57)),
 i1 59 (.bin .lss (.t 53) (.t 58)),
 mv 60 59,
 mvg 61 0 60 false,
 i1g 62 60 false (.nilCheck (.t 61)),
 i1g 63 60 false (.fieldAddr 4 (.t 62)),
 i1g 64 60 false (.loadR [.bool false] false (.t 63)),
 i1 65 (.pick (.t 60) (.c (.bool true)) (.t 64)),
 mv 2 49,
 mv 3 65] [2, 3])
 .ret))))
def res_lex_scan_word : List IRes := [⟨2, true, none⟩, ⟨3, true, none⟩]
theorem is_lex_scan_word : fnIs Go.Proofs.Tryz.prog 260 66 res_lex_scan_word ir_lex_scan_word = true := by kernel_rfl
theorem lex_scan_word_fn {s_0} {B0 : Nat} {s : Store} {Q : List AV → Store → Prop} (hB0 : s B0 = some (.cells [s_0.Builder.a, s_0.Builder.b, .sl false 1 s_0.b_.length (flat s_0.b_), .int .i64 s_0.at_, .bool s_0.last_])) : ok (lex_scan_word s_0) (fun r => Q [.str r.1.b, .bool r.2.1] (s.set B0 (.cells [r.2.2.Builder.a, r.2.2.Builder.b, .sl false 1 r.2.2.b_.length (flat r.2.2.b_), .int .i64 r.2.2.at_, .bool r.2.2.last_]))) → FN Go.Proofs.Tryz.prog 260 [.ref B0 0] s Q := by
  have hS : s = (s.set B0 (.cells [s_0.Builder.a, s_0.Builder.b, .sl false 1 s_0.b_.length (flat s_0.b_), .int .i64 s_0.at_, .bool s_0.last_])) := by simp only [set_eq' hB0]
  rw [hS]
  intro h
  refine FN.of (draw_ok mix) is_lex_scan_word rfl (Nat.le_of_ble_eq_true rfl) ?_
  revert h
  rw [ir_lex_scan_word, res_lex_scan_word, lex_scan_word]
  repeat' (first
    | with_reducible exact tt_to
    | with_reducible refine and_to ?_ ?_
    | with_reducible refine call_to_g rfl (fun _ (h : lex_regular (ix o3.b_ o3.at_) = some _) => lex_regular_fe h) (fun _ => rfl) (fun r6 => ?_)
    | ((with_reducible refine iter_to (fun (o3 : lex_scan) => ⟨[(0, .ref B0 0), (4, .int .i64 s_0.at_)], [], (s.set B0 (.cells [o3.Builder.a, o3.Builder.b, .sl false 1 o3.b_.length (flat o3.b_), .int .i64 o3.at_, .bool o3.last_]))⟩) ?_ ?_); (first | exact rfl | simp -implicitDefEqProofs only [go_sem, start, startE, resVs, resV, resC, allV, retK, Nat.reduceBEq, Nat.reduceAdd, Nat.reduceMul, Nat.reduceLeDiff, Nat.reduceEqDiff, Nat.reduceBNe, Nat.ble_eq, UInt8.reduceToNat, UInt32.reduceToNat]); rintro J o3)
    | ((with_reducible refine join_to (fun (o2 : lex_scan) => ⟨[(0, .ref B0 0), (4, .int .i64 s_0.at_)], [], (s.set B0 (.cells [o2.Builder.a, o2.Builder.b, .sl false 1 o2.b_.length (flat o2.b_), .int .i64 o2.at_, .bool o2.last_]))⟩) (fun J => ?_) ?_); rotate_left; rintro o2)
    | simp -implicitDefEqProofs only [go_sem, start, startE, resVs, resV, resC, allV, retK, Nat.reduceBEq, Nat.reduceAdd, Nat.reduceMul, Nat.reduceLeDiff, Nat.reduceEqDiff, Nat.reduceBNe, Nat.ble_eq, UInt8.reduceToNat, UInt32.reduceToNat])
def internal_stringslite_HasPrefix (s_0 : Str) (prefix_1 : Str) : Option (Bool) :=
  need ((decide ((s_0.b.length : Int) ≥ (prefix_1.b.length : Int))) = true → 0 ≤ (0 : Int) ∧ 0 ≤ (prefix_1.b.length : Int) ∧ (prefix_1.b.length : Int) ≤ s_0.b.length) <|
  some ((decide ((s_0.b.length : Int) ≥ (prefix_1.b.length : Int))) && ((Str.mk (part s_0.b 0 (prefix_1.b.length : Int))).b == prefix_1.b))
def ir_internal_stringslite_HasPrefix : IC :=
 (.seq (.reg none [i1 4 (.mov false (.c (.bool false)))] [0, 1])
 (.seq (.reg none [mv 5 0,
 i1 6 (.len 1 (.t 5)),
 mv 7 1,
 i1 8 (.len 1 (.t 7)),
 i1 9 (.bin .geq (.t 6) (.t 8)),
 mv 10 9,
 mvg 11 0 10 true,
 mvg 12 1 10 true,
 i1g 13 10 true (.len 1 (.t 12)),
 i1g 14 10 true (.sslice (.t 11) none (some (.t 13))),
 mvg 15 1 10 true,
 i1g 16 10 true (.bin .eql (.t 14) (.t 15)),
 i1 17 (.pick (.t 10) (.t 16) (.c (.bool false))),
 mv 4 17] [4])
 .ret))
def res_internal_stringslite_HasPrefix : List IRes := [⟨4, true, none⟩]
theorem is_internal_stringslite_HasPrefix : fnIs Go.Proofs.Tryz.prog 349 18 res_internal_stringslite_HasPrefix ir_internal_stringslite_HasPrefix = true := by kernel_rfl
theorem internal_stringslite_HasPrefix_fn {s_0 prefix_1} {s : Store} {Q : List AV → Store → Prop}  : ok (internal_stringslite_HasPrefix s_0 prefix_1) (fun r => Q [.bool r] s) → FN Go.Proofs.Tryz.prog 349 [.str s_0.b, .str prefix_1.b] s Q := by
  intro h
  refine FN.of (draw_ok mix) is_internal_stringslite_HasPrefix rfl (Nat.le_of_ble_eq_true rfl) ?_
  revert h
  rw [ir_internal_stringslite_HasPrefix, res_internal_stringslite_HasPrefix, internal_stringslite_HasPrefix]
  repeat' (first
    | simp -implicitDefEqProofs only [go_sem, start, startE, resVs, resV, resC, allV, retK, Nat.reduceBEq, Nat.reduceAdd, Nat.reduceMul, Nat.reduceLeDiff, Nat.reduceEqDiff, Nat.reduceBNe, Nat.ble_eq, UInt8.reduceToNat, UInt32.reduceToNat])
theorem internal_stringslite_HasPrefix_fe {s_0 prefix_1} {s : Store} {r : Bool}  (h : internal_stringslite_HasPrefix s_0 prefix_1 = some r) : FE Go.Proofs.Tryz.prog 349 [.str s_0.b, .str prefix_1.b] s [.bool r] s := internal_stringslite_HasPrefix_fn  ⟨r, h, rfl, rfl⟩
def strings_HasPrefix (s_0 : Str) (prefix_1 : Str) : Option (Bool) :=
  bnd (internal_stringslite_HasPrefix s_0 prefix_1) fun r1 =>
  some r1
def ir_strings_HasPrefix : IC :=
 (.seq (.reg none [i1 4 (.mov false (.c (.bool false)))] [0, 1])
 (.seq (.reg none [mv 5 0,
 mv 6 1,
 i1 7 (.call 349 [(.t 5), (.t 6)]),
 mv 4 7] [4])
 .ret))
def res_strings_HasPrefix : List IRes := [⟨4, true, none⟩]
theorem is_strings_HasPrefix : fnIs Go.Proofs.Tryz.prog 326 8 res_strings_HasPrefix ir_strings_HasPrefix = true := by kernel_rfl
theorem strings_HasPrefix_fn {s_0 prefix_1} {s : Store} {Q : List AV → Store → Prop}  : ok (strings_HasPrefix s_0 prefix_1) (fun r => Q [.bool r] s) → FN Go.Proofs.Tryz.prog 326 [.str s_0.b, .str prefix_1.b] s Q := by
  intro h
  refine FN.of (draw_ok mix) is_strings_HasPrefix rfl (Nat.le_of_ble_eq_true rfl) ?_
  revert h
  rw [ir_strings_HasPrefix, res_strings_HasPrefix, strings_HasPrefix]
  repeat' (first
    | with_reducible refine call_to (fun _ (h : internal_stringslite_HasPrefix s_0 prefix_1 = some _) => internal_stringslite_HasPrefix_fe h) (fun r1 => ?_)
    | simp -implicitDefEqProofs only [go_sem, start, startE, resVs, resV, resC, allV, retK, Nat.reduceBEq, Nat.reduceAdd, Nat.reduceMul, Nat.reduceLeDiff, Nat.reduceEqDiff, Nat.reduceBNe, Nat.ble_eq, UInt8.reduceToNat, UInt32.reduceToNat])
theorem strings_HasPrefix_fe {s_0 prefix_1} {s : Store} {r : Bool}  (h : strings_HasPrefix s_0 prefix_1 = some r) : FE Go.Proofs.Tryz.prog 326 [.str s_0.b, .str prefix_1.b] s [.bool r] s := strings_HasPrefix_fn  ⟨r, h, rfl, rfl⟩
def internal_stringslite_Cut (s_0 : Str) (sep_1 : Str) : Option (Str × Str × Bool) :=
  bnd (stringslite_Index s_0 sep_1) fun r1 =>
  if decide (r1 ≥ 0) then
    need (0 ≤ (0 : Int) ∧ 0 ≤ r1 ∧ r1 ≤ s_0.b.length) <|
    need (0 ≤ w64 (r1 + (sep_1.b.length : Int)) ∧ w64 (r1 + (sep_1.b.length : Int)) ≤ (s_0.b.length : Int) ∧ (s_0.b.length : Int) ≤ s_0.b.length) <|
    some (Str.mk (part s_0.b 0 r1), Str.mk (part s_0.b (w64 (r1 + (sep_1.b.length : Int))) (s_0.b.length : Int)), true)
  else
    some (s_0, (Str.mk []), false)
def ir_internal_stringslite_Cut : IC :=
 (.seq (.reg none [i1 4 (.mov false (.c (.str []))),
 i1 5 (.mov false (.c (.str []))),
 i1 6 (.mov false (.c (.bool false)))] [0, 1])
 (.seq (.seq (.reg none [mv 8 0,
 mv 9 1,
 i1 10 (.call 364 [(.t 8), (.t 9)]),
 mv 7 10] [0, 1, 7])
 (.seq (.reg none [mv 11 7,
 i1 12 (.bin .geq (.t 11) (.c (.int .i64 0)))] [0, 1, 7, 12])
 (.cond (.t 12) (.seq (.reg (some 12) [mv 13 0,
 mv 14 7,
 i1 15 (.sslice (.t 13) none (some (.t 14))),
 mv 16 0,
 mv 17 7,
 mv 18 1,
 i1 19 (.len 1 (.t 18)),
 i1 20 (.bin .add (.t 17) (.t 19)),
 i1 21 (.sslice (.t 16) (some (.t 20)) none),
 mv 4 15,
 mv 5 21,
 i1 6 (.mov false (.c (.bool true)))] [4, 5, 6])
 .ret)
 .skip)))
 (.seq (.reg none [mv 22 0,
 mv 4 22,
 i1 5 (.mov false (.c (.str []))),
 i1 6 (.mov false (.c (.bool false)))] [4, 5, 6])
 .ret)))
def res_internal_stringslite_Cut : List IRes := [⟨4, true, none⟩, ⟨5, true, none⟩, ⟨6, true, none⟩]
theorem is_internal_stringslite_Cut : fnIs Go.Proofs.Tryz.prog 350 23 res_internal_stringslite_Cut ir_internal_stringslite_Cut = true := by kernel_rfl
theorem internal_stringslite_Cut_fn {s_0 sep_1} {s : Store} {Q : List AV → Store → Prop}  : ok (internal_stringslite_Cut s_0 sep_1) (fun r => Q [.str r.1.b, .str r.2.1.b, .bool r.2.2] s) → FN Go.Proofs.Tryz.prog 350 [.str s_0.b, .str sep_1.b] s Q := by
  intro h
  refine FN.of (draw_ok mix) is_internal_stringslite_Cut rfl (Nat.le_of_ble_eq_true rfl) ?_
  revert h
  rw [ir_internal_stringslite_Cut, res_internal_stringslite_Cut, internal_stringslite_Cut]
  repeat' (first
    | with_reducible refine call_to (fun _ (h : stringslite_Index s_0 sep_1 = some _) => stringslite_Index_fe h) (fun r1 => ?_)
    | simp -implicitDefEqProofs only [go_sem, start, startE, resVs, resV, resC, allV, retK, Nat.reduceBEq, Nat.reduceAdd, Nat.reduceMul, Nat.reduceLeDiff, Nat.reduceEqDiff, Nat.reduceBNe, Nat.ble_eq, UInt8.reduceToNat, UInt32.reduceToNat])
theorem internal_stringslite_Cut_fe {s_0 sep_1} {s : Store} {r : Str × Str × Bool}  (h : internal_stringslite_Cut s_0 sep_1 = some r) : FE Go.Proofs.Tryz.prog 350 [.str s_0.b, .str sep_1.b] s [.str r.1.b, .str r.2.1.b, .bool r.2.2] s := internal_stringslite_Cut_fn  ⟨r, h, rfl, rfl⟩
def strings_Cut (s_0 : Str) (sep_1 : Str) : Option (Str × Str × Bool) :=
  bnd (internal_stringslite_Cut s_0 sep_1) fun r1 =>
  some (r1.1, r1.2.1, r1.2.2)
def ir_strings_Cut : IC :=
 (.seq (.reg none [i1 4 (.mov false (.c (.str []))),
 i1 5 (.mov false (.c (.str []))),
 i1 6 (.mov false (.c (.bool false)))] [0, 1])
 (.seq (.reg none [mv 7 0,
 mv 8 1,
 i1 9 (.call 350 [(.t 7), (.t 8)]),
 i1 10 (.extract (.t 9) 0),
 i1 11 (.extract (.t 9) 1),
 i1 12 (.extract (.t 9) 2),
 mv 4 10,
 mv 5 11,
 mv 6 12] [4, 5, 6])
 .ret))
def res_strings_Cut : List IRes := [⟨4, true, none⟩, ⟨5, true, none⟩, ⟨6, true, none⟩]
theorem is_strings_Cut : fnIs Go.Proofs.Tryz.prog 327 13 res_strings_Cut ir_strings_Cut = true := by kernel_rfl
theorem strings_Cut_fn {s_0 sep_1} {s : Store} {Q : List AV → Store → Prop}  : ok (strings_Cut s_0 sep_1) (fun r => Q [.str r.1.b, .str r.2.1.b, .bool r.2.2] s) → FN Go.Proofs.Tryz.prog 327 [.str s_0.b, .str sep_1.b] s Q := by
  intro h
  refine FN.of (draw_ok mix) is_strings_Cut rfl (Nat.le_of_ble_eq_true rfl) ?_
  revert h
  rw [ir_strings_Cut, res_strings_Cut, strings_Cut]
  repeat' (first
    | with_reducible refine call_to (fun _ (h : internal_stringslite_Cut s_0 sep_1 = some _) => internal_stringslite_Cut_fe h) (fun r1 => ?_)
    | simp -implicitDefEqProofs only [go_sem, start, startE, resVs, resV, resC, allV, retK, Nat.reduceBEq, Nat.reduceAdd, Nat.reduceMul, Nat.reduceLeDiff, Nat.reduceEqDiff, Nat.reduceBNe, Nat.ble_eq, UInt8.reduceToNat, UInt32.reduceToNat])
theorem strings_Cut_fe {s_0 sep_1} {s : Store} {r : Str × Str × Bool}  (h : strings_Cut s_0 sep_1 = some r) : FE Go.Proofs.Tryz.prog 327 [.str s_0.b, .str sep_1.b] s [.str r.1.b, .str r.2.1.b, .bool r.2.2] s := strings_Cut_fn  ⟨r, h, rfl, rfl⟩
def num_millionths (s_0 : Str) : Option (Int) :=
  need (((s_0.b.length + (Str.mk [48, 48, 48, 48, 48, 48]).b.length : Nat) : Int) ≤ hi64) <|
  need (0 ≤ (0 : Int) ∧ 0 ≤ 6 ∧ 6 ≤ (Str.mk (s_0.b ++ (Str.mk [48, 48, 48, 48, 48, 48]).b)).b.length) <|
  bnd (num_Digits (Str.mk (part (Str.mk (s_0.b ++ (Str.mk [48, 48, 48, 48, 48, 48]).b)).b 0 6))) fun r1 =>
  some r1.1
def ir_num_millionths : IC :=
 (.seq (.reg none [i1 2 (.mov false (.c (.int .i64 0)))] [0])
 (.seq (.reg none [mv 5 0,
 i1 6 (.bin .add (.t 5) (.c (.str [48, 48, 48, 48, 48, 48]))),
 i1 7 (.sslice (.t 6) none (some (.c (.int .i64 6)))),
 mv 0 7] [0])
 (.seq (.reg none [mv 9 0,
 i1 10 (.call 329 [(.t 9)]),
 i1 8 (.movT (.t 10)),
 i1 11 (.extract (.t 8) 0),
 i1 12 (.extract (.t 8) 1),
 mv 3 11,
 mv 4 12] [3])
 (.seq (.reg none [mv 13 3,
 mv 2 13] [2])
 .ret))))
def res_num_millionths : List IRes := [⟨2, true, none⟩]
theorem is_num_millionths : fnIs Go.Proofs.Tryz.prog 330 14 res_num_millionths ir_num_millionths = true := by kernel_rfl
theorem num_millionths_fn {s_0} {s : Store} {Q : List AV → Store → Prop}  : ok (num_millionths s_0) (fun r => Q [.int .i64 r] s) → FN Go.Proofs.Tryz.prog 330 [.str s_0.b] s Q := by
  intro h
  refine FN.of (draw_ok mix) is_num_millionths rfl (Nat.le_of_ble_eq_true rfl) ?_
  revert h
  rw [ir_num_millionths, res_num_millionths, num_millionths]
  repeat' (first
    | with_reducible exact tt_to
    | with_reducible refine and_to ?_ ?_
    | ((fail_if_success (have _x := r1)); with_reducible refine call_to (fun _ h => num_Digits_fe h) (fun r1 => ?_))
    | simp -implicitDefEqProofs only [go_sem, start, startE, resVs, resV, resC, allV, retK, Nat.reduceBEq, Nat.reduceAdd, Nat.reduceMul, Nat.reduceLeDiff, Nat.reduceEqDiff, Nat.reduceBNe, Nat.ble_eq, UInt8.reduceToNat, UInt32.reduceToNat])
theorem num_millionths_fe {s_0} {s : Store} {r : Int}  (h : num_millionths s_0 = some r) : FE Go.Proofs.Tryz.prog 330 [.str s_0.b] s [.int .i64 r] s := num_millionths_fn  ⟨r, h, rfl, rfl⟩
def num_Check (v_0 : api_Value) : Option (Int) :=
  jnS (
    if v_0.Kind == 2 then
      some (.inl 2147483647)
    else
      if v_0.Kind == 3 then
        some (.inl 2147483647000000)
      else
        some (.inr (2 : Int))) (fun (limit2 : Int) =>
    if (((decide (v_0.N < w64 (0 - limit2))) || (decide (v_0.N > limit2))) || (!(v_0.S.b == (Str.mk []).b))) || (decide ((v_0.L.length : Int) > 0)) then
      some 2
    else
      some 0)
  (fun (t3 : Int) => some t3)
def ir_num_Check : IC :=
 (.seq (.reg none [i1 1 (.boxL 4 (.t 0)),
 i1 2 (.mov false (.c (.int .i64 0)))] [1])
 (.seq (.reg none [i1 3 (.mov false (.c (.int .i64 0)))] [1])
 (.join [(1, false), (3, false)] (.seq (.reg none [i1 4 (.fieldAddr 0 (.t 1)),
 i1 5 (.load 1 false (.t 4))] [1, 5])
 (.block 0 (.seq (.reg none [i1 7 (.bin .eql (.t 5) (.c (.int .i64 2))),
 mv 6 7] [1, 5, 6])
 (.cond (.t 6) (.reg none [i1 3 (.mov false (.c (.int .i64 2147483647)))] [1, 3])
 (.seq (.reg none [i1 9 (.bin .eql (.t 5) (.c (.int .i64 3))),
 mv 8 9] [1, 8])
 (.cond (.t 8) (.reg none [i1 3 (.mov false (.c (.int .i64 2147483647000000)))] [1, 3])
 (.seq (.reg none [i1 2 (.mov false (.c (.int .i64 2)))] [2])
 .ret)))))))
 (.seq (.seq (.reg none [i1 10 (.fieldAddr 1 (.t 1)),
 i1 11 (.load 1 false (.t 10)),
 mv 12 3,
 i1 13 (.un .neg (.t 12)),
 i1 14 (.bin .lss (.t 11) (.t 13)),
 mv 15 14,
 i1g 16 15 false (.fieldAddr 1 (.t 1)),
 i1g 17 15 false (.load 1 false (.t 16)),
 mvg 18 3 15 false,
 i1g 19 15 false (.bin .gtr (.t 17) (.t 18)),
 i1 20 (.pick (.t 15) (.c (.bool true)) (.t 19)),
 mv 21 20,
 i1g 22 21 false (.fieldAddr 2 (.t 1)),
 i1g 23 21 false (.load 1 false (.t 22)),
 i1g 24 21 false (.bin .neq (.t 23) (.c (.str []))),
 i1 25 (.pick (.t 21) (.c (.bool true)) (.t 24)),
 mv 26 25,
 i1g 27 26 false (.fieldAddr 3 (.t 1)),
 i1g 28 26 false (.load 1 false (.t 27)),
 i1g 29 26 false (.len 0 (.t 28)),
 i1g 30 26 false (.bin .gtr (.t 29) (.c (.int .i64 0))),
 i1 31 (.pick (.t 26) (.c (.bool true)) (.t 30))] [31])
 (.cond (.t 31) (.seq (.reg none [i1 2 (.mov false (.c (.int .i64 2)))] [2])
 .ret)
 .skip))
 (.seq (.reg none [i1 2 (.mov false (.c (.int .i64 0)))] [2])
 .ret)))))
def res_num_Check : List IRes := [⟨2, true, none⟩]
theorem is_num_Check : fnIs Go.Proofs.Tryz.prog 331 32 res_num_Check ir_num_Check = true := by kernel_rfl
theorem num_Check_fn {v_0} {s : Store} {Q : List AV → Store → Prop}  : ok (num_Check v_0) (fun r => Q [.int .i64 r] s) → FN Go.Proofs.Tryz.prog 331 [.agg [.int .i64 v_0.Kind, .int .i64 v_0.N, .str v_0.S.b, .sl false 4 v_0.L.length (flat v_0.L)]] s Q := by
  intro h
  refine FN.of (draw_ok mix) is_num_Check rfl (Nat.le_of_ble_eq_true rfl) ?_
  revert h
  rw [ir_num_Check, res_num_Check, num_Check]
  repeat' (first
    | ((with_reducible refine join_toS (fun (limit2 : Int) => ⟨[(1, .loc [.int .i64 v_0.Kind, .int .i64 v_0.N, .str v_0.S.b, .sl false 4 v_0.L.length (flat v_0.L)]), (3, .int .i64 limit2)], [], s⟩) (fun J => ?_) ?_); rotate_left; rintro limit2)
    | simp -implicitDefEqProofs only [go_sem, start, startE, resVs, resV, resC, allV, retK, Nat.reduceBEq, Nat.reduceAdd, Nat.reduceMul, Nat.reduceLeDiff, Nat.reduceEqDiff, Nat.reduceBNe, Nat.ble_eq, UInt8.reduceToNat, UInt32.reduceToNat])
theorem num_Check_fe {v_0} {s : Store} {r : Int}  (h : num_Check v_0 = some r) : FE Go.Proofs.Tryz.prog 331 [.agg [.int .i64 v_0.Kind, .int .i64 v_0.N, .str v_0.S.b, .sl false 4 v_0.L.length (flat v_0.L)]] s [.int .i64 r] s := num_Check_fn  ⟨r, h, rfl, rfl⟩
def num_Parse (s_0 : Str) : Option (api_Value × Int) :=
  jn (
    bnd (strings_HasPrefix s_0 (Str.mk [45])) fun r4 =>
    if r4 then
      need (0 ≤ (1 : Int) ∧ 1 ≤ (s_0.b.length : Int) ∧ (s_0.b.length : Int) ≤ s_0.b.length) <|
      some ((-1), Str.mk (part s_0.b 1 (s_0.b.length : Int)))
    else
      bnd (strings_HasPrefix s_0 (Str.mk [43])) fun r5 =>
      if r5 then
        need (0 ≤ (1 : Int) ∧ 1 ≤ (s_0.b.length : Int) ∧ (s_0.b.length : Int) ≤ s_0.b.length) <|
        some (1, Str.mk (part s_0.b 1 (s_0.b.length : Int)))
      else
        some (1, s_0)) fun ((sign2, body3) : Int × Str) =>
  bnd (strings_Cut body3 (Str.mk [46])) fun r6 =>
  bnd (whenB (!((w64 ((r6.1.b.length : Int) + (r6.2.1.b.length : Int))) == 0)) false (num_all r6.1)) fun r7 =>
  bnd (whenB (!(((w64 ((r6.1.b.length : Int) + (r6.2.1.b.length : Int))) == 0) || (!r7))) false (num_all r6.2.1)) fun r8 =>
  if (((w64 ((r6.1.b.length : Int) + (r6.2.1.b.length : Int))) == 0) || (!r7)) || (!r8) then
    some ((api_Value.mk 0 0 (Str.mk []) ([] : List api_Value)), 11)
  else
    need ((((Str.mk [48]).b.length + r6.1.b.length : Nat) : Int) ≤ hi64) <|
    bnd (num_Digits (Str.mk ((Str.mk [48]).b ++ r6.1.b))) fun r9 =>
    if r9.2 != 0 then
      some ((api_Value.mk 0 0 (Str.mk []) ([] : List api_Value)), r9.2)
    else
      if !r6.2.2 then
        some ((api_Value.mk 2 (w64 (sign2 * r9.1)) (Str.mk []) ([] : List api_Value)), 0)
      else
        bnd (num_millionths r6.2.1) fun r10 =>
        bnd (num_Check (api_Value.mk 3 (w64 (sign2 * (w64 ((w64 (r9.1 * 1000000)) + r10)))) (Str.mk []) ([] : List api_Value))) fun r11 =>
        if r11 != 0 then
          some ((api_Value.mk 0 0 (Str.mk []) ([] : List api_Value)), 5)
        else
          some ((api_Value.mk 3 (w64 (sign2 * (w64 ((w64 (r9.1 * 1000000)) + r10)))) (Str.mk []) ([] : List api_Value)), 0)
def ir_num_Parse : IC :=
 (.seq (.reg none [i1 2 (.allocL [.int .i64 0, .int .i64 0, .str [], .sl true 4 0 []]),
 i1 3 (.mov false (.c (.int .i64 0)))] [0, 2])
 (.seq (.reg none [i1 4 (.mov false (.c (.int .i64 1)))] [0, 2, 4])
 (.seq (.reg none [mv 12 0,
 mv 5 12] [0, 2, 4, 5])
 (.join [(2, false), (4, false), (5, false)] (.block 0 (.seq (.reg none [mv 14 0,
 i1 15 (.call 326 [(.t 14), (.c (.str [45]))]),
 mv 13 15] [0, 2, 4, 5, 13])
 (.cond (.t 13) (.reg (some 4) [mv 16 0,
 i1 17 (.sslice (.t 16) (some (.c (.int .i64 1))) none),
 i1 4 (.mov false (.c (.int .i64 (-1)))),
 mv 5 17] [2, 4, 5])
 (.seq (.reg none [mv 19 0,
 i1 20 (.call 326 [(.t 19), (.c (.str [43]))]),
 mv 18 20] [0, 2, 4, 5, 18])
 (.cond (.t 18) (.reg none [mv 21 0,
 i1 22 (.sslice (.t 21) (some (.c (.int .i64 1))) none),
 mv 5 22] [2, 4, 5])
 .skip)))))
 (.seq (.reg none [mv 24 5,
 i1 25 (.call 327 [(.t 24), (.c (.str [46]))]),
 i1 23 (.movT (.t 25)),
 i1 26 (.extract (.t 23) 0),
 i1 27 (.extract (.t 23) 1),
 i1 28 (.extract (.t 23) 2),
 mv 6 26,
 mv 7 27,
 mv 8 28] [2, 4, 6, 7, 8])
 (.seq (.seq (.reg (some 14) [mv 29 6,
 i1 30 (.len 1 (.t 29)),
 mv 31 7,
 i1 32 (.len 1 (.t 31)),
 i1 33 (.bin .add (.t 30) (.t 32)),
 i1 34 (.bin .eql (.t 33) (.c (.int .i64 0))),
 mv 35 34,
 mvg 36 6 35 false,
 i1g 37 35 false (.call 328 [(.t 36)]),
 i1g 38 35 false (.un .not (.t 37)),
 i1 39 (.pick (.t 35) (.c (.bool true)) (.t 38)),
 mv 40 39,
 mvg 41 7 40 false,
 i1g 42 40 false (.call 328 [(.t 41)]),
 i1g 43 40 false (.un .not (.t 42)),
 i1 44 (.pick (.t 40) (.c (.bool true)) (.t 43))] [2, 4, 6, 7, 8, 44])
 (.cond (.t 44) (.seq (.reg none [i1 45 (.build [.int .i64 0, .int .i64 0, .str [], .sl true 4 0 []] []),
 i0 (.store 4 (.t 2) (.t 45)),
 i1 3 (.mov false (.c (.int .i64 11)))] [2, 3])
 .ret)
 .skip))
 (.seq (.reg none [mv 47 6,
 i1 48 (.bin .add (.c (.str [48])) (.t 47)),
 i1 49 (.call 329 [(.t 48)]),
 i1 46 (.movT (.t 49)),
 i1 50 (.extract (.t 46) 0),
 i1 51 (.extract (.t 46) 1),
 mv 9 50,
 mv 10 51] [2, 4, 7, 8, 9, 10])
 (.seq (.seq (.reg none [mv 52 10,
 i1 53 (.bin .neq (.t 52) (.c (.int .i64 0)))] [2, 4, 7, 8, 9, 10, 53])
 (.cond (.t 53) (.seq (.reg none [i1 54 (.build [.int .i64 0, .int .i64 0, .str [], .sl true 4 0 []] []),
 mv 55 10,
 i0 (.store 4 (.t 2) (.t 54)),
 mv 3 55] [2, 3])
 .ret)
 .skip))
 (.seq (.seq (.reg none [mv 56 8,
 i1 57 (.un .not (.t 56))] [2, 4, 7, 9, 57])
 (.cond (.t 57) (.seq (.reg none [mv 58 4,
 mv 59 9,
 i1 60 (.bin .mul (.t 58) (.t 59)),
 i1 61 (.build [.int .i64 0, .int .i64 0, .str [], .sl true 4 0 []] [(0, 1, (.c (.int .i64 2))), (1, 1, (.t 60))]),
 i0 (.store 4 (.t 2) (.t 61)),
 i1 3 (.mov false (.c (.int .i64 0)))] [2, 3])
 .ret)
 .skip))
 (.seq (.reg none [mv 62 4,
 mv 63 9,
 i1 64 (.bin .mul (.t 63) (.c (.int .i64 1000000))),
 mv 65 7,
 i1 66 (.call 330 [(.t 65)]),
 i1 67 (.bin .add (.t 64) (.t 66)),
 i1 68 (.bin .mul (.t 62) (.t 67)),
 i1 69 (.build [.int .i64 0, .int .i64 0, .str [], .sl true 4 0 []] [(0, 1, (.c (.int .i64 3))), (1, 1, (.t 68))]),
 i1 11 (.allocL [.int .i64 0, .int .i64 0, .str [], .sl true 4 0 []]),
 i0 (.store 4 (.t 11) (.t 69))] [2, 11])
 (.seq (.seq (.reg none [i1 70 (.load 4 true (.t 11)),
 i1 71 (.call 331 [(.t 70)]),
 i1 72 (.bin .neq (.t 71) (.c (.int .i64 0)))] [2, 11, 72])
 (.cond (.t 72) (.seq (.reg none [i1 73 (.build [.int .i64 0, .int .i64 0, .str [], .sl true 4 0 []] []),
 i0 (.store 4 (.t 2) (.t 73)),
 i1 3 (.mov false (.c (.int .i64 5)))] [2, 3])
 .ret)
 .skip))
 (.seq (.reg none [i1 74 (.load 4 true (.t 11)),
 i0 (.store 4 (.t 2) (.t 74)),
 i1 3 (.mov false (.c (.int .i64 0)))] [2, 3])
 .ret))))))))))))
def res_num_Parse : List IRes := [⟨2, false, some (4, true)⟩, ⟨3, true, none⟩]
theorem is_num_Parse : fnIs Go.Proofs.Tryz.prog 294 75 res_num_Parse ir_num_Parse = true := by kernel_rfl
theorem num_Parse_fn {s_0} {s : Store} {Q : List AV → Store → Prop}  : ok (num_Parse s_0) (fun r => Q [.agg [.int .i64 r.1.Kind, .int .i64 r.1.N, .str r.1.S.b, .sl false 4 r.1.L.length (flat r.1.L)], .int .i64 r.2] s) → FN Go.Proofs.Tryz.prog 294 [.str s_0.b] s Q := by
  intro h
  refine FN.of (draw_ok mix) is_num_Parse rfl (Nat.le_of_ble_eq_true rfl) ?_
  revert h
  rw [ir_num_Parse, res_num_Parse, num_Parse]
  repeat' (first
    | with_reducible exact tt_to
    | with_reducible refine and_to ?_ ?_
    | with_reducible refine im_to ?_
    | with_reducible refine call_to (fun _ (h : strings_HasPrefix s_0 (Str.mk [45]) = some _) => strings_HasPrefix_fe h) (fun r4 => ?_)
    | with_reducible refine call_to (fun _ (h : strings_HasPrefix s_0 (Str.mk [43]) = some _) => strings_HasPrefix_fe h) (fun r5 => ?_)
    | with_reducible refine call_to (fun _ (h : strings_Cut body3 (Str.mk [46]) = some _) => strings_Cut_fe h) (fun r6 => ?_)
    | with_reducible refine call_to_g rfl (fun _ (h : num_all r6.1 = some _) => num_all_fe h) (fun _ => rfl) (fun r7 => ?_)
    | with_reducible refine call_to_g rfl (fun _ (h : num_all r6.2.1 = some _) => num_all_fe h) (fun _ => rfl) (fun r8 => ?_)
    | ((fail_if_success (have _x := r9)); with_reducible refine call_to (fun _ h => num_Digits_fe h) (fun r9 => ?_))
    | with_reducible refine call_to (fun _ (h : num_millionths r6.2.1 = some _) => num_millionths_fe h) (fun r10 => ?_)
    | with_reducible refine call_to (fun _ (h : num_Check (api_Value.mk 3 (w64 (sign2 * (w64 ((w64 (r9.1 * 1000000)) + r10)))) (Str.mk []) ([] : List api_Value)) = some _) => (by refine FE_cast ?_ (num_Check_fe h); simp -implicitDefEqProofs only [go_sem, start, startE, resVs, resV, resC, allV, retK, Nat.reduceBEq, Nat.reduceAdd, Nat.reduceMul, Nat.reduceLeDiff, Nat.reduceEqDiff, Nat.reduceBNe, Nat.ble_eq, UInt8.reduceToNat, UInt32.reduceToNat])) (fun r11 => ?_)
    | ((with_reducible refine join_to (fun ((sign2, body3) : Int × Str) => ⟨[(2, .loc [.int .i64 0, .int .i64 0, .str (Str.mk []).b, .sl true 4 ([] : List api_Value).length (flat ([] : List api_Value))]), (4, .int .i64 sign2), (5, .str body3.b)], [], s⟩) (fun J => ?_) ?_); rotate_left; rintro ⟨sign2, body3⟩)
    | simp -implicitDefEqProofs only [go_sem, start, startE, resVs, resV, resC, allV, retK, Nat.reduceBEq, Nat.reduceAdd, Nat.reduceMul, Nat.reduceLeDiff, Nat.reduceEqDiff, Nat.reduceBNe, Nat.ble_eq, UInt8.reduceToNat, UInt32.reduceToNat])
theorem num_Parse_fe {s_0} {s : Store} {r : api_Value × Int}  (h : num_Parse s_0 = some r) : FE Go.Proofs.Tryz.prog 294 [.str s_0.b] s [.agg [.int .i64 r.1.Kind, .int .i64 r.1.N, .str r.1.S.b, .sl false 4 r.1.L.length (flat r.1.L)], .int .i64 r.2] s := num_Parse_fn  ⟨r, h, rfl, rfl⟩
def lex_scan_regulars (s_0 : lex_scan) : Option (lex_Token × Int × lex_scan) :=
  bnd (lex_scan_word s_0) fun r1 =>
  if !r1.2.1 then
    some ((lex_Token.mk 0 0 0 (api_Value.mk 0 0 (Str.mk []) ([] : List api_Value)) (Str.mk [])), 6, r1.2.2)
  else
    need (0 ≤ (0 : Int) ∧ (0 : Int) < r1.1.b.length) <|
    if ((((decide (((ix r1.1.b 0).toNat : Int) ≥ 48)) && (decide (((ix r1.1.b 0).toNat : Int) ≤ 57))) || (((ix r1.1.b 0).toNat : Int) == 43)) || (((ix r1.1.b 0).toNat : Int) == 45)) || (((ix r1.1.b 0).toNat : Int) == 46) then
      bnd (num_Parse r1.1) fun r2 =>
      some ((lex_Token.mk 1 0 0 r2.1 (Str.mk [])), r2.2, r1.2.2)
    else
      some ((lex_Token.mk 6 0 0 (api_Value.mk 0 0 (Str.mk []) ([] : List api_Value)) r1.1), 0, r1.2.2)
def ir_lex_scan_regulars : IC :=
 (.seq (.reg none [i1 2 (.allocL [.int .i64 0, .int .i64 0, .int .i64 0, .int .i64 0, .int .i64 0, .str [], .sl true 4 0 [], .str []]),
 i1 3 (.mov false (.c (.int .i64 0)))] [0, 2])
 (.seq (.reg none [mv 10 0,
 i1 11 (.call 260 [(.t 10)]),
 i1 9 (.movT (.t 11)),
 i1 12 (.extract (.t 9) 0),
 i1 13 (.extract (.t 9) 1),
 mv 4 12,
 mv 5 13] [2, 4, 5])
 (.seq (.seq (.reg none [mv 14 5,
 i1 15 (.un .not (.t 14))] [2, 4, 15])
 (.cond (.t 15) (.seq (.reg none [i1 16 (.build [.int .i64 0, .int .i64 0, .int .i64 0, .int .i64 0, .int .i64 0, .str [], .sl true 4 0 [], .str []] []),
 i0 (.store 8 (.t 2) (.t 16)),
 i1 3 (.mov false (.c (.int .i64 6)))] [2, 3])
 .ret)
 .skip))
 (.seq (.seq (.reg none [mv 17 4,
 i1 18 (.sindex (.t 17) (.c (.int .i64 0))),
 mv 6 18] [2, 4, 6])
 (.seq (.reg none [mv 19 6,
 i1 20 (.bin .geq (.t 19) (.c (.int .u8 48))),
 mv 21 20,
 mvg 22 6 21 true,
 i1g 23 21 true (.bin .leq (.t 22) (.c (.int .u8 57))),
 i1 24 (.pick (.t 21) (.t 23) (.c (.bool false))),
 mv 25 24,
 mvg 26 6 25 false,
 i1g 27 25 false (.bin .eql (.t 26) (.c (.int .u8 43))),
 i1 28 (.pick (.t 25) (.c (.bool true)) (.t 27)),
 mv 29 28,
 mvg 30 6 29 false,
 i1g 31 29 false (.bin .eql (.t 30) (.c (.int .u8 45))),
 i1 32 (.pick (.t 29) (.c (.bool true)) (.t 31)),
 mv 33 32,
 mvg 34 6 33 false,
 i1g 35 33 false (.bin .eql (.t 34) (.c (.int .u8 46))),
 i1 36 (.pick (.t 33) (.c (.bool true)) (.t 35))] [2, 4, 36])
 (.cond (.t 36) (.seq (.reg none [mv 38 4,
 i1 39 (.call 294 [(.t 38)]),
 i1 37 (.movT (.t 39)),
 i1 40 (.extract (.t 37) 0),
 i1 41 (.extract (.t 37) 1),
 i1 7 (.allocL [.int .i64 0, .int .i64 0, .str [], .sl true 4 0 []]),
 i0 (.store 4 (.t 7) (.t 40)),
 mv 8 41] [2, 7, 8])
 (.seq (.reg none [i1 42 (.load 4 true (.t 7)),
 i1 43 (.build [.int .i64 0, .int .i64 0, .int .i64 0, .int .i64 0, .int .i64 0, .str [], .sl true 4 0 [], .str []] [(0, 1, (.c (.int .i64 1))), (3, 4, (.t 42))]),
 mv 44 8,
 i0 (.store 8 (.t 2) (.t 43)),
 mv 3 44] [2, 3])
 .ret))
 .skip)))
 (.seq (.reg none [mv 45 4,
 i1 46 (.build [.int .i64 0, .int .i64 0, .int .i64 0, .int .i64 0, .int .i64 0, .str [], .sl true 4 0 [], .str []] [(0, 1, (.c (.int .i64 6))), (7, 1, (.t 45))]),
 i0 (.store 8 (.t 2) (.t 46)),
 i1 3 (.mov false (.c (.int .i64 0)))] [2, 3])
 .ret)))))
def res_lex_scan_regulars : List IRes := [⟨2, false, some (8, true)⟩, ⟨3, true, none⟩]
theorem is_lex_scan_regulars : fnIs Go.Proofs.Tryz.prog 256 47 res_lex_scan_regulars ir_lex_scan_regulars = true := by kernel_rfl
theorem lex_scan_regulars_fn {s_0} {B0 : Nat} {s : Store} {Q : List AV → Store → Prop} (hB0 : s B0 = some (.cells [s_0.Builder.a, s_0.Builder.b, .sl false 1 s_0.b_.length (flat s_0.b_), .int .i64 s_0.at_, .bool s_0.last_])) : ok (lex_scan_regulars s_0) (fun r => Q [.agg [.int .i64 r.1.Kind, .int .i64 r.1.From, .int .i64 r.1.To, .int .i64 r.1.V.Kind, .int .i64 r.1.V.N, .str r.1.V.S.b, .sl false 4 r.1.V.L.length (flat r.1.V.L), .str r.1.S.b], .int .i64 r.2.1] (s.set B0 (.cells [r.2.2.Builder.a, r.2.2.Builder.b, .sl false 1 r.2.2.b_.length (flat r.2.2.b_), .int .i64 r.2.2.at_, .bool r.2.2.last_]))) → FN Go.Proofs.Tryz.prog 256 [.ref B0 0] s Q := by
  have hS : s = (s.set B0 (.cells [s_0.Builder.a, s_0.Builder.b, .sl false 1 s_0.b_.length (flat s_0.b_), .int .i64 s_0.at_, .bool s_0.last_])) := by simp only [set_eq' hB0]
  rw [hS]
  intro h
  refine FN.of (draw_ok mix) is_lex_scan_regulars rfl (Nat.le_of_ble_eq_true rfl) ?_
  revert h
  rw [ir_lex_scan_regulars, res_lex_scan_regulars, lex_scan_regulars]
  repeat' (first
    | with_reducible exact tt_to
    | with_reducible refine and_to ?_ ?_
    | with_reducible refine im_to ?_
    | with_reducible refine fun hh => lex_scan_word_fn (B0 := B0) (by simp -implicitDefEqProofs only [go_sem, start, startE, resVs, resV, resC, allV, retK, Nat.reduceBEq, Nat.reduceAdd, Nat.reduceMul, Nat.reduceLeDiff, Nat.reduceEqDiff, Nat.reduceBNe, Nat.ble_eq, UInt8.reduceToNat, UInt32.reduceToNat] <;> simp only [encM_nil])   (ok_mono (show ok (lex_scan_word s_0) _ from hh) fun r1 => ?_)
    | with_reducible refine call_to (fun _ (h : num_Parse r1.1 = some _) => num_Parse_fe h) (fun r2 => ?_)
    | simp -implicitDefEqProofs only [go_sem, start, startE, resVs, resV, resC, allV, retK, Nat.reduceBEq, Nat.reduceAdd, Nat.reduceMul, Nat.reduceLeDiff, Nat.reduceEqDiff, Nat.reduceBNe, Nat.ble_eq, UInt8.reduceToNat, UInt32.reduceToNat])
def lex_scan_peek (s_0 : lex_scan) : Option (UInt8 × Bool) :=
  if decide (s_0.at_ ≥ (s_0.b_.length : Int)) then
    some (0, false)
  else
    need (0 ≤ s_0.at_ ∧ s_0.at_ < s_0.b_.length) <|
    some (ix s_0.b_ s_0.at_, true)
def ir_lex_scan_peek : IC :=
 (.seq (.reg none [i1 2 (.mov false (.c (.int .u8 0))),
 i1 3 (.mov false (.c (.bool false)))] [0])
 (.seq (.seq (.reg (some 10) [mv 4 0,
 i1 5 (.nilCheck (.t 4)),
 i1 6 (.fieldAddr 3 (.t 5)),
 i1 7 (.loadR [.int .i64 0] false (.t 6)),
 mv 8 0,
 i1 9 (.nilCheck (.t 8)),
 i1 10 (.fieldAddr 2 (.t 9)),
 i1 11 (.loadR [.sl false 1 0 []] false (.t 10)),
 i1 12 (.len 0 (.t 11)),
 i1 13 (.bin .geq (.t 7) (.t 12))] [0, 13])
 (.cond (.t 13) (.seq (.reg none [i1 2 (.mov false (.c (.int .u8 0))),
 i1 3 (.mov false (.c (.bool false)))] [2, 3])
 .ret)
 .skip))
 (.seq (.reg (some 12) [mv 14 0,
 i1 15 (.nilCheck (.t 14)),
 i1 16 (.fieldAddr 2 (.t 15)),
 i1 17 (.loadR [.sl false 1 0 []] false (.t 16)),
 mv 18 0,
 i1 19 (.nilCheck (.t 18)),
 i1 20 (.fieldAddr 3 (.t 19)),
 i1 21 (.loadR [.int .i64 0] false (.t 20)),
 i1 22 (.indexAddr [.int .u8 0] (.t 17) (.t 21)),
 i1 23 (.load 1 false (.t 22)),
 mv 2 23,
 i1 3 (.mov false (.c (.bool true)))] [2, 3])
 .ret)))
def res_lex_scan_peek : List IRes := [⟨2, true, none⟩, ⟨3, true, none⟩]
theorem is_lex_scan_peek : fnIs Go.Proofs.Tryz.prog 295 24 res_lex_scan_peek ir_lex_scan_peek = true := by kernel_rfl
theorem lex_scan_peek_fn {s_0} {B0 : Nat} {s : Store} {Q : List AV → Store → Prop} (hB0 : s B0 = some (.cells [s_0.Builder.a, s_0.Builder.b, .sl false 1 s_0.b_.length (flat s_0.b_), .int .i64 s_0.at_, .bool s_0.last_])) : ok (lex_scan_peek s_0) (fun r => Q [.int .u8 r.1.toNat, .bool r.2] s) → FN Go.Proofs.Tryz.prog 295 [.ref B0 0] s Q := by
  have hS : s = (s.set B0 (.cells [s_0.Builder.a, s_0.Builder.b, .sl false 1 s_0.b_.length (flat s_0.b_), .int .i64 s_0.at_, .bool s_0.last_])) := by simp only [set_eq' hB0]
  rw [hS]
  intro h
  refine FN.of (draw_ok mix) is_lex_scan_peek rfl (Nat.le_of_ble_eq_true rfl) ?_
  revert h
  rw [ir_lex_scan_peek, res_lex_scan_peek, lex_scan_peek]
  repeat' (first
    | simp -implicitDefEqProofs only [go_sem, start, startE, resVs, resV, resC, allV, retK, Nat.reduceBEq, Nat.reduceAdd, Nat.reduceMul, Nat.reduceLeDiff, Nat.reduceEqDiff, Nat.reduceBNe, Nat.ble_eq, UInt8.reduceToNat, UInt32.reduceToNat])
theorem lex_scan_peek_fe {s_0} {B0 : Nat} {s : Store} {r : UInt8 × Bool} (hB0 : s B0 = some (.cells [s_0.Builder.a, s_0.Builder.b, .sl false 1 s_0.b_.length (flat s_0.b_), .int .i64 s_0.at_, .bool s_0.last_])) (h : lex_scan_peek s_0 = some r) : FE Go.Proofs.Tryz.prog 295 [.ref B0 0] s [.int .u8 r.1.toNat, .bool r.2] s := lex_scan_peek_fn hB0 ⟨r, h, rfl, rfl⟩
def lex_scan_open (s_0 : lex_scan) : Option (Int) :=
  if s_0.last_ then
    some 10
  else
    some 6
def ir_lex_scan_open : IC :=
 (.seq (.reg none [i1 2 (.mov false (.c (.int .i64 0)))] [0])
 (.seq (.seq (.reg none [mv 3 0,
 i1 4 (.nilCheck (.t 3)),
 i1 5 (.fieldAddr 4 (.t 4)),
 i1 6 (.loadR [.bool false] false (.t 5))] [6])
 (.cond (.t 6) (.seq (.reg none [i1 2 (.mov false (.c (.int .i64 10)))] [2])
 .ret)
 .skip))
 (.seq (.reg none [i1 2 (.mov false (.c (.int .i64 6)))] [2])
 .ret)))
def res_lex_scan_open : List IRes := [⟨2, true, none⟩]
theorem is_lex_scan_open : fnIs Go.Proofs.Tryz.prog 296 7 res_lex_scan_open ir_lex_scan_open = true := by kernel_rfl
theorem lex_scan_open_fn {s_0} {B0 : Nat} {s : Store} {Q : List AV → Store → Prop} (hB0 : s B0 = some (.cells [s_0.Builder.a, s_0.Builder.b, .sl false 1 s_0.b_.length (flat s_0.b_), .int .i64 s_0.at_, .bool s_0.last_])) : ok (lex_scan_open s_0) (fun r => Q [.int .i64 r] s) → FN Go.Proofs.Tryz.prog 296 [.ref B0 0] s Q := by
  have hS : s = (s.set B0 (.cells [s_0.Builder.a, s_0.Builder.b, .sl false 1 s_0.b_.length (flat s_0.b_), .int .i64 s_0.at_, .bool s_0.last_])) := by simp only [set_eq' hB0]
  rw [hS]
  intro h
  refine FN.of (draw_ok mix) is_lex_scan_open rfl (Nat.le_of_ble_eq_true rfl) ?_
  revert h
  rw [ir_lex_scan_open, res_lex_scan_open, lex_scan_open]
  repeat' (first
    | simp -implicitDefEqProofs only [go_sem, start, startE, resVs, resV, resC, allV, retK, Nat.reduceBEq, Nat.reduceAdd, Nat.reduceMul, Nat.reduceLeDiff, Nat.reduceEqDiff, Nat.reduceBNe, Nat.ble_eq, UInt8.reduceToNat, UInt32.reduceToNat])
theorem lex_scan_open_fe {s_0} {B0 : Nat} {s : Store} {r : Int} (hB0 : s B0 = some (.cells [s_0.Builder.a, s_0.Builder.b, .sl false 1 s_0.b_.length (flat s_0.b_), .int .i64 s_0.at_, .bool s_0.last_])) (h : lex_scan_open s_0 = some r) : FE Go.Proofs.Tryz.prog 296 [.ref B0 0] s [.int .i64 r] s := lex_scan_open_fn hB0 ⟨r, h, rfl, rfl⟩
def lex_hex (c_0 : UInt8) : Option (Int) :=
  if (decide ((c_0.toNat : Int) ≥ 48)) && (decide ((c_0.toNat : Int) ≤ 57)) then
    some (w64 (((u8w ((c_0.toNat : Int) - 48)).toNat : Int)))
  else
    if (decide ((c_0.toNat : Int) ≥ 97)) && (decide ((c_0.toNat : Int) ≤ 102)) then
      some (w64 ((w64 (((u8w ((c_0.toNat : Int) - 97)).toNat : Int))) + 10))
    else
      if (decide ((c_0.toNat : Int) ≥ 65)) && (decide ((c_0.toNat : Int) ≤ 70)) then
        some (w64 ((w64 (((u8w ((c_0.toNat : Int) - 65)).toNat : Int))) + 10))
      else
        some (-1)
def ir_lex_hex : IC :=
 (.seq (.reg none [i1 2 (.mov false (.c (.int .i64 0)))] [0])
 (.seq (.block 0 (.seq (.reg none [mv 4 0,
 i1 5 (.bin .geq (.t 4) (.c (.int .u8 48))),
 mv 6 5,
 mvg 7 0 6 true,
 i1g 8 6 true (.bin .leq (.t 7) (.c (.int .u8 57))),
 i1 9 (.pick (.t 6) (.t 8) (.c (.bool false))),
 mv 3 9] [0, 3])
 (.cond (.t 3) (.seq (.reg none [mv 10 0,
 i1 11 (.bin .sub (.t 10) (.c (.int .u8 48))),
 i1 12 (.cvtInt .i64 (.t 11)),
 mv 2 12] [2])
 .ret)
 (.seq (.reg none [mv 14 0,
 i1 15 (.bin .geq (.t 14) (.c (.int .u8 97))),
 mv 16 15,
 mvg 17 0 16 true,
 i1g 18 16 true (.bin .leq (.t 17) (.c (.int .u8 102))),
 i1 19 (.pick (.t 16) (.t 18) (.c (.bool false))),
 mv 13 19] [0, 13])
 (.cond (.t 13) (.seq (.reg none [mv 20 0,
 i1 21 (.bin .sub (.t 20) (.c (.int .u8 97))),
 i1 22 (.cvtInt .i64 (.t 21)),
 i1 23 (.bin .add (.t 22) (.c (.int .i64 10))),
 mv 2 23] [2])
 .ret)
 (.seq (.reg none [mv 25 0,
 i1 26 (.bin .geq (.t 25) (.c (.int .u8 65))),
 mv 27 26,
 mvg 28 0 27 true,
 i1g 29 27 true (.bin .leq (.t 28) (.c (.int .u8 70))),
 i1 30 (.pick (.t 27) (.t 29) (.c (.bool false))),
 mv 24 30] [0, 24])
 (.cond (.t 24) (.seq (.reg none [mv 31 0,
 i1 32 (.bin .sub (.t 31) (.c (.int .u8 65))),
 i1 33 (.cvtInt .i64 (.t 32)),
 i1 34 (.bin .add (.t 33) (.c (.int .i64 10))),
 mv 2 34] [2])
 .ret)
 .skip)))))))
 (.seq (.reg none [i1 2 (.mov false (.c (.int .i64 (-1))))] [2])
 .ret)))
def res_lex_hex : List IRes := [⟨2, true, none⟩]
theorem is_lex_hex : fnIs Go.Proofs.Tryz.prog 302 35 res_lex_hex ir_lex_hex = true := by kernel_rfl
theorem lex_hex_fn {c_0} {s : Store} {Q : List AV → Store → Prop}  : ok (lex_hex c_0) (fun r => Q [.int .i64 r] s) → FN Go.Proofs.Tryz.prog 302 [.int .u8 c_0.toNat] s Q := by
  intro h
  refine FN.of (draw_ok mix) is_lex_hex rfl (Nat.le_of_ble_eq_true rfl) ?_
  revert h
  rw [ir_lex_hex, res_lex_hex, lex_hex]
  repeat' (first
    | simp -implicitDefEqProofs only [go_sem, start, startE, resVs, resV, resC, allV, retK, Nat.reduceBEq, Nat.reduceAdd, Nat.reduceMul, Nat.reduceLeDiff, Nat.reduceEqDiff, Nat.reduceBNe, Nat.ble_eq, UInt8.reduceToNat, UInt32.reduceToNat])
theorem lex_hex_fe {c_0} {s : Store} {r : Int}  (h : lex_hex c_0 = some r) : FE Go.Proofs.Tryz.prog 302 [.int .u8 c_0.toNat] s [.int .i64 r] s := lex_hex_fn  ⟨r, h, rfl, rfl⟩
def lex_scan_hexes (s_0 : lex_scan) : Option (api_Value × Int × lex_scan) :=
  iter (fun ((half1, o2) : Int × lex_scan) =>
    bnd (lex_scan_peek o2) fun r6 =>
    if !r6.2 then
      bnd (lex_scan_open o2) fun r7 =>
      some (.inr ((api_Value.mk 0 0 (Str.mk []) ([] : List api_Value)), r7, o2))
    else
      bnd (lex_hex r6.1) fun r8 =>
      jnS (
        if ((r6.1.toNat : Int) == 62) && (decide (half1 ≥ 0)) then
          bnd (strings_Builder_WriteByte o2.Builder (u8w (w64 (16 * half1)))) fun r15 =>
          bnd (strings_Builder_String r15) fun r16 =>
          some (.inr ((api_Value.mk 4 0 r16.1 ([] : List api_Value)), (0 : Int), (lex_scan.mk r16.2 o2.b_ (w64 (o2.at_ + 1)) o2.last_)))
        else
          if (r6.1.toNat : Int) == 62 then
            bnd (strings_Builder_String o2.Builder) fun r17 =>
            some (.inr ((api_Value.mk 4 0 r17.1 ([] : List api_Value)), (0 : Int), (lex_scan.mk r17.2 o2.b_ (w64 (o2.at_ + 1)) o2.last_)))
          else
            bnd (lex_Space r6.1) fun r18 =>
            if r18 then
              some (.inl (half1, (lex_scan.mk o2.Builder o2.b_ (w64 (o2.at_ + 1)) o2.last_)))
            else
              if decide (r8 < 0) then
                some (.inr ((api_Value.mk 0 0 (Str.mk []) ([] : List api_Value)), (11 : Int), (lex_scan.mk o2.Builder o2.b_ (w64 (o2.at_ + 1)) o2.last_)))
              else
                if decide (half1 < 0) then
                  some (.inl (r8, (lex_scan.mk o2.Builder o2.b_ (w64 (o2.at_ + 1)) o2.last_)))
                else
                  bnd (strings_Builder_WriteByte o2.Builder (u8w (w64 ((w64 (16 * half1)) + r8)))) fun r19 =>
                  some (.inl ((-1), (lex_scan.mk r19 o2.b_ (w64 (o2.at_ + 1)) o2.last_)))) (fun ((half10, o11) : Int × lex_scan) =>
        some (.inl (half10, o11)))
      (fun ((t12, t13, o14) : api_Value × Int × lex_scan) => some (.inr (t12, t13, o14)))) ((-1), s_0)
def ir_lex_scan_hexes : IC :=
 (.seq (.reg none [i1 2 (.allocL [.int .i64 0, .int .i64 0, .str [], .sl true 4 0 []]),
 i1 3 (.mov false (.c (.int .i64 0)))] [0, 2])
 (.scopeJ 0 [(0, false), (2, false), (4, false)] (.reg none [i1 4 (.mov false (.c (.int .i64 (-1))))] [0, 2, 4])
 .skip
 .skip
 (.seq (.reg none [mv 9 0,
 i1 10 (.call 295 [(.t 9)]),
 i1 8 (.movT (.t 10)),
 i1 11 (.extract (.t 8) 0),
 i1 12 (.extract (.t 8) 1),
 mv 5 11,
 mv 6 12] [0, 2, 4, 5, 6])
 (.seq (.seq (.reg none [mv 13 6,
 i1 14 (.un .not (.t 13))] [0, 2, 4, 5, 14])
 (.cond (.t 14) (.seq (.reg none [i1 15 (.build [.int .i64 0, .int .i64 0, .str [], .sl true 4 0 []] []),
 mv 16 0,
 i1 17 (.call 296 [(.t 16)]),
 i0 (.store 4 (.t 2) (.t 15)),
 mv 3 17] [2, 3])
 .ret)
 .skip))
 (.seq (.reg none [mv 18 0,
 i1 19 (.nilCheck (.t 18)),
 i1 20 (.fieldAddr 3 (.t 19)),
 i1 21 (.loadR [.int .i64 0] false (.t 20)),
 i1 22 (.bin .add (.t 21) (.c (.int .i64 1))),
 i1 23 (.nilCheck (.t 18)),
 i1 24 (.fieldAddr 3 (.t 23)),
 i0 (.store 1 (.t 24) (.t 22))] [0, 2, 4, 5])
 (.seq (.reg none [mv 25 5,
 i1 26 (.call 302 [(.t 25)]),
 mv 7 26] [0, 2, 4, 5, 7])
 (.join [(0, false), (2, false), (4, false)] (.block 0 (.seq (.reg none [mv 37 5,
 i1 38 (.bin .eql (.t 37) (.c (.int .u8 62))),
 mv 39 38,
 mvg 40 4 39 true,
 i1g 41 39 true (.bin .geq (.t 40) (.c (.int .i64 0))),
 i1 42 (.pick (.t 39) (.t 41) (.c (.bool false))),
 mv 36 42] [0, 2, 4, 5, 7, 36])
 (.cond (.t 36) (.seq (.reg none [mv 43 0,
 i1 44 (.nilCheck (.t 43)),
 i1 45 (.fieldAddr 0 (.t 44)),
 mv 46 4,
 i1 47 (.bin .mul (.c (.int .i64 16)) (.t 46)),
 i1 48 (.cvtInt .u8 (.t 47)),
 i1 49 (.call 301 [(.t 45), (.t 48)])] [0, 2])
 (.seq (.reg none [mv 50 0,
 i1 51 (.nilCheck (.t 50)),
 i1 52 (.fieldAddr 0 (.t 51)),
 i1 53 (.call 300 [(.t 52)]),
 i1 54 (.build [.int .i64 0, .int .i64 0, .str [], .sl true 4 0 []] [(0, 1, (.c (.int .i64 4))), (2, 1, (.t 53))]),
 i0 (.store 4 (.t 2) (.t 54)),
 i1 3 (.mov false (.c (.int .i64 0)))] [2, 3])
 .ret))
 (.seq (.reg none [mv 56 5,
 i1 57 (.bin .eql (.t 56) (.c (.int .u8 62))),
 mv 55 57] [0, 2, 4, 5, 7, 55])
 (.cond (.t 55) (.seq (.reg none [mv 58 0,
 i1 59 (.nilCheck (.t 58)),
 i1 60 (.fieldAddr 0 (.t 59)),
 i1 61 (.call 300 [(.t 60)]),
 i1 62 (.build [.int .i64 0, .int .i64 0, .str [], .sl true 4 0 []] [(0, 1, (.c (.int .i64 4))), (2, 1, (.t 61))]),
 i0 (.store 4 (.t 2) (.t 62)),
 i1 3 (.mov false (.c (.int .i64 0)))] [2, 3])
 .ret)
 (.seq (.reg none [mv 64 5,
 i1 65 (.call 130 [(.t 64)]),
 mv 63 65] [0, 2, 4, 7, 63])
 (.cond (.t 63) .skip
 (.seq (.reg none [mv 67 7,
 i1 68 (.bin .lss (.t 67) (.c (.int .i64 0))),
 mv 66 68] [0, 2, 4, 7, 66])
 (.cond (.t 66) (.seq (.reg none [i1 69 (.build [.int .i64 0, .int .i64 0, .str [], .sl true 4 0 []] []),
 i0 (.store 4 (.t 2) (.t 69)),
 i1 3 (.mov false (.c (.int .i64 11)))] [2, 3])
 .ret)
 (.seq (.reg none [mv 71 4,
 i1 72 (.bin .lss (.t 71) (.c (.int .i64 0))),
 mv 70 72] [0, 2, 4, 7, 70])
 (.cond (.t 70) (.reg none [mv 73 7,
 mv 4 73] [0, 2, 4])
 (.seq (.reg none [mv 27 0,
 i1 28 (.nilCheck (.t 27)),
 i1 29 (.fieldAddr 0 (.t 28)),
 mv 30 4,
 i1 31 (.bin .mul (.c (.int .i64 16)) (.t 30)),
 mv 32 7,
 i1 33 (.bin .add (.t 31) (.t 32)),
 i1 34 (.cvtInt .u8 (.t 33)),
 i1 35 (.call 301 [(.t 29), (.t 34)])] [0, 2])
 (.reg none [i1 4 (.mov false (.c (.int .i64 (-1))))] [0, 2, 4])))))))))))))
 (.goto 0))))))))
def res_lex_scan_hexes : List IRes := [⟨2, false, some (4, true)⟩, ⟨3, true, none⟩]
theorem is_lex_scan_hexes : fnIs Go.Proofs.Tryz.prog 297 74 res_lex_scan_hexes ir_lex_scan_hexes = true := by kernel_rfl
theorem lex_scan_hexes_fn {s_0} {B0 : Nat} {s : Store} {Q : List AV → Store → Prop} (hB0 : s B0 = some (.cells [s_0.Builder.a, s_0.Builder.b, .sl false 1 s_0.b_.length (flat s_0.b_), .int .i64 s_0.at_, .bool s_0.last_])) : ok (lex_scan_hexes s_0) (fun r => Q [.agg [.int .i64 r.1.Kind, .int .i64 r.1.N, .str r.1.S.b, .sl false 4 r.1.L.length (flat r.1.L)], .int .i64 r.2.1] (s.set B0 (.cells [r.2.2.Builder.a, r.2.2.Builder.b, .sl false 1 r.2.2.b_.length (flat r.2.2.b_), .int .i64 r.2.2.at_, .bool r.2.2.last_]))) → FN Go.Proofs.Tryz.prog 297 [.ref B0 0] s Q := by
  have hS : s = (s.set B0 (.cells [s_0.Builder.a, s_0.Builder.b, .sl false 1 s_0.b_.length (flat s_0.b_), .int .i64 s_0.at_, .bool s_0.last_])) := by simp only [set_eq' hB0]
  rw [hS]
  intro h
  refine FN.of (draw_ok mix) is_lex_scan_hexes rfl (Nat.le_of_ble_eq_true rfl) ?_
  revert h
  rw [ir_lex_scan_hexes, res_lex_scan_hexes, lex_scan_hexes]
  repeat' (first
    | with_reducible exact tt_to
    | with_reducible refine and_to ?_ ?_
    | with_reducible refine im_to ?_
    | with_reducible refine call_to (fun _ (h : lex_scan_peek o2 = some _) => lex_scan_peek_fe (B0 := B0) (by simp -implicitDefEqProofs only [go_sem, start, startE, resVs, resV, resC, allV, retK, Nat.reduceBEq, Nat.reduceAdd, Nat.reduceMul, Nat.reduceLeDiff, Nat.reduceEqDiff, Nat.reduceBNe, Nat.ble_eq, UInt8.reduceToNat, UInt32.reduceToNat] <;> simp only [encM_nil])   h) (fun r6 => ?_)
    | with_reducible refine call_to (fun _ (h : lex_scan_open o2 = some _) => lex_scan_open_fe (B0 := B0) (by simp -implicitDefEqProofs only [go_sem, start, startE, resVs, resV, resC, allV, retK, Nat.reduceBEq, Nat.reduceAdd, Nat.reduceMul, Nat.reduceLeDiff, Nat.reduceEqDiff, Nat.reduceBNe, Nat.ble_eq, UInt8.reduceToNat, UInt32.reduceToNat] <;> simp only [encM_nil])   h) (fun r7 => ?_)
    | with_reducible refine call_to (fun _ (h : lex_hex r6.1 = some _) => lex_hex_fe h) (fun r8 => ?_)
    | with_reducible refine fun hh => strings_Builder_WriteByte_fn (B0 := B0) (preB0 := []) (postB0 := [.sl false 1 o2.b_.length (flat o2.b_), .int .i64 (w64 (o2.at_ + 1)), .bool o2.last_]) (by simp -implicitDefEqProofs only [go_sem, start, startE, resVs, resV, resC, allV, retK, Nat.reduceBEq, Nat.reduceAdd, Nat.reduceMul, Nat.reduceLeDiff, Nat.reduceEqDiff, Nat.reduceBNe, Nat.ble_eq, UInt8.reduceToNat, UInt32.reduceToNat] <;> simp only [encM_nil]) (by first | rfl | simp)  (ok_mono (show ok (strings_Builder_WriteByte o2.Builder (u8w (w64 (16 * half1)))) _ from hh) fun r15 => ?_)
    | with_reducible refine fun hh => strings_Builder_String_fn (B0 := B0) (preB0 := []) (postB0 := [.sl false 1 o2.b_.length (flat o2.b_), .int .i64 (w64 (o2.at_ + 1)), .bool o2.last_]) (by simp -implicitDefEqProofs only [go_sem, start, startE, resVs, resV, resC, allV, retK, Nat.reduceBEq, Nat.reduceAdd, Nat.reduceMul, Nat.reduceLeDiff, Nat.reduceEqDiff, Nat.reduceBNe, Nat.ble_eq, UInt8.reduceToNat, UInt32.reduceToNat] <;> simp only [encM_nil]) (by first | rfl | simp)  (ok_mono (show ok (strings_Builder_String r15) _ from hh) fun r16 => ?_)
    | with_reducible refine fun hh => strings_Builder_String_fn (B0 := B0) (preB0 := []) (postB0 := [.sl false 1 o2.b_.length (flat o2.b_), .int .i64 (w64 (o2.at_ + 1)), .bool o2.last_]) (by simp -implicitDefEqProofs only [go_sem, start, startE, resVs, resV, resC, allV, retK, Nat.reduceBEq, Nat.reduceAdd, Nat.reduceMul, Nat.reduceLeDiff, Nat.reduceEqDiff, Nat.reduceBNe, Nat.ble_eq, UInt8.reduceToNat, UInt32.reduceToNat] <;> simp only [encM_nil]) (by first | rfl | simp)  (ok_mono (show ok (strings_Builder_String o2.Builder) _ from hh) fun r17 => ?_)
    | with_reducible refine call_to (fun _ (h : lex_Space r6.1 = some _) => lex_Space_fe h) (fun r18 => ?_)
    | with_reducible refine fun hh => strings_Builder_WriteByte_fn (B0 := B0) (preB0 := []) (postB0 := [.sl false 1 o2.b_.length (flat o2.b_), .int .i64 (w64 (o2.at_ + 1)), .bool o2.last_]) (by simp -implicitDefEqProofs only [go_sem, start, startE, resVs, resV, resC, allV, retK, Nat.reduceBEq, Nat.reduceAdd, Nat.reduceMul, Nat.reduceLeDiff, Nat.reduceEqDiff, Nat.reduceBNe, Nat.ble_eq, UInt8.reduceToNat, UInt32.reduceToNat] <;> simp only [encM_nil]) (by first | rfl | simp)  (ok_mono (show ok (strings_Builder_WriteByte o2.Builder (u8w (w64 ((w64 (16 * half1)) + r8)))) _ from hh) fun r19 => ?_)
    | ((with_reducible refine join_toS (fun ((half10, o11) : Int × lex_scan) => ⟨[(0, .ref B0 0), (2, .loc [.int .i64 0, .int .i64 0, .str (Str.mk []).b, .sl true 4 ([] : List api_Value).length (flat ([] : List api_Value))]), (4, .int .i64 half10)], [], (s.set B0 (.cells [o11.Builder.a, o11.Builder.b, .sl false 1 o11.b_.length (flat o11.b_), .int .i64 o11.at_, .bool o11.last_]))⟩) (fun J => ?_) ?_); rotate_left; rintro ⟨half10, o11⟩)
    | ((with_reducible refine jump_to (fun ((half1, o2) : Int × lex_scan) => ⟨[(0, .ref B0 0), (2, .loc [.int .i64 0, .int .i64 0, .str (Str.mk []).b, .sl true 4 ([] : List api_Value).length (flat ([] : List api_Value))]), (4, .int .i64 half1)], [], (s.set B0 (.cells [o2.Builder.a, o2.Builder.b, .sl false 1 o2.b_.length (flat o2.b_), .int .i64 o2.at_, .bool o2.last_]))⟩) ?_ ?_); (first | exact rfl | simp -implicitDefEqProofs only [go_sem, start, startE, resVs, resV, resC, allV, retK, Nat.reduceBEq, Nat.reduceAdd, Nat.reduceMul, Nat.reduceLeDiff, Nat.reduceEqDiff, Nat.reduceBNe, Nat.ble_eq, UInt8.reduceToNat, UInt32.reduceToNat]); rintro J ⟨half1, o2⟩)
    | simp -implicitDefEqProofs only [go_sem, start, startE, resVs, resV, resC, allV, retK, Nat.reduceBEq, Nat.reduceAdd, Nat.reduceMul, Nat.reduceLeDiff, Nat.reduceEqDiff, Nat.reduceBNe, Nat.ble_eq, UInt8.reduceToNat, UInt32.reduceToNat])
def lex_scan_opening (s_0 : lex_scan) : Option (lex_Token × Int × lex_scan) :=
  bnd (lex_scan_peek s_0) fun r1 =>
  if !r1.2 then
    bnd (lex_scan_open s_0) fun r2 =>
    some ((lex_Token.mk 0 0 0 (api_Value.mk 0 0 (Str.mk []) ([] : List api_Value)) (Str.mk [])), r2, s_0)
  else
    if (r1.1.toNat : Int) == 60 then
      some ((lex_Token.mk 4 0 0 (api_Value.mk 0 0 (Str.mk []) ([] : List api_Value)) (Str.mk [])), 0, (lex_scan.mk s_0.Builder s_0.b_ (w64 (s_0.at_ + 1)) s_0.last_))
    else
      bnd (lex_scan_hexes s_0) fun r3 =>
      some ((lex_Token.mk 1 0 0 r3.1 (Str.mk [])), r3.2.1, r3.2.2)
def ir_lex_scan_opening : IC :=
 (.seq (.reg none [i1 2 (.allocL [.int .i64 0, .int .i64 0, .int .i64 0, .int .i64 0, .int .i64 0, .str [], .sl true 4 0 [], .str []]),
 i1 3 (.mov false (.c (.int .i64 0)))] [0, 2])
 (.seq (.reg none [mv 9 0,
 i1 10 (.call 295 [(.t 9)]),
 i1 8 (.movT (.t 10)),
 i1 11 (.extract (.t 8) 0),
 i1 12 (.extract (.t 8) 1),
 mv 4 11,
 mv 5 12] [0, 2, 4, 5])
 (.seq (.seq (.reg none [mv 13 5,
 i1 14 (.un .not (.t 13))] [0, 2, 4, 14])
 (.cond (.t 14) (.seq (.reg none [i1 15 (.build [.int .i64 0, .int .i64 0, .int .i64 0, .int .i64 0, .int .i64 0, .str [], .sl true 4 0 [], .str []] []),
 mv 16 0,
 i1 17 (.call 296 [(.t 16)]),
 i0 (.store 8 (.t 2) (.t 15)),
 mv 3 17] [2, 3])
 .ret)
 .skip))
 (.seq (.seq (.reg none [mv 18 4,
 i1 19 (.bin .eql (.t 18) (.c (.int .u8 60)))] [0, 2, 19])
 (.cond (.t 19) (.seq (.reg none [mv 20 0,
 i1 21 (.nilCheck (.t 20)),
 i1 22 (.fieldAddr 3 (.t 21)),
 i1 23 (.loadR [.int .i64 0] false (.t 22)),
 i1 24 (.bin .add (.t 23) (.c (.int .i64 1))),
 i1 25 (.nilCheck (.t 20)),
 i1 26 (.fieldAddr 3 (.t 25)),
 i0 (.store 1 (.t 26) (.t 24))] [2])
 (.seq (.reg none [i1 27 (.build [.int .i64 0, .int .i64 0, .int .i64 0, .int .i64 0, .int .i64 0, .str [], .sl true 4 0 [], .str []] [(0, 1, (.c (.int .i64 4)))]),
 i0 (.store 8 (.t 2) (.t 27)),
 i1 3 (.mov false (.c (.int .i64 0)))] [2, 3])
 .ret))
 .skip))
 (.seq (.reg none [mv 29 0,
 i1 30 (.call 297 [(.t 29)]),
 i1 28 (.movT (.t 30)),
 i1 31 (.extract (.t 28) 0),
 i1 32 (.extract (.t 28) 1),
 i1 6 (.allocL [.int .i64 0, .int .i64 0, .str [], .sl true 4 0 []]),
 i0 (.store 4 (.t 6) (.t 31)),
 mv 7 32] [2, 6, 7])
 (.seq (.reg none [i1 33 (.load 4 true (.t 6)),
 i1 34 (.build [.int .i64 0, .int .i64 0, .int .i64 0, .int .i64 0, .int .i64 0, .str [], .sl true 4 0 [], .str []] [(0, 1, (.c (.int .i64 1))), (3, 4, (.t 33))]),
 mv 35 7,
 i0 (.store 8 (.t 2) (.t 34)),
 mv 3 35] [2, 3])
 .ret))))))
def res_lex_scan_opening : List IRes := [⟨2, false, some (8, true)⟩, ⟨3, true, none⟩]
theorem is_lex_scan_opening : fnIs Go.Proofs.Tryz.prog 257 36 res_lex_scan_opening ir_lex_scan_opening = true := by kernel_rfl
theorem lex_scan_opening_fn {s_0} {B0 : Nat} {s : Store} {Q : List AV → Store → Prop} (hB0 : s B0 = some (.cells [s_0.Builder.a, s_0.Builder.b, .sl false 1 s_0.b_.length (flat s_0.b_), .int .i64 s_0.at_, .bool s_0.last_])) : ok (lex_scan_opening s_0) (fun r => Q [.agg [.int .i64 r.1.Kind, .int .i64 r.1.From, .int .i64 r.1.To, .int .i64 r.1.V.Kind, .int .i64 r.1.V.N, .str r.1.V.S.b, .sl false 4 r.1.V.L.length (flat r.1.V.L), .str r.1.S.b], .int .i64 r.2.1] (s.set B0 (.cells [r.2.2.Builder.a, r.2.2.Builder.b, .sl false 1 r.2.2.b_.length (flat r.2.2.b_), .int .i64 r.2.2.at_, .bool r.2.2.last_]))) → FN Go.Proofs.Tryz.prog 257 [.ref B0 0] s Q := by
  have hS : s = (s.set B0 (.cells [s_0.Builder.a, s_0.Builder.b, .sl false 1 s_0.b_.length (flat s_0.b_), .int .i64 s_0.at_, .bool s_0.last_])) := by simp only [set_eq' hB0]
  rw [hS]
  intro h
  refine FN.of (draw_ok mix) is_lex_scan_opening rfl (Nat.le_of_ble_eq_true rfl) ?_
  revert h
  rw [ir_lex_scan_opening, res_lex_scan_opening, lex_scan_opening]
  repeat' (first
    | with_reducible exact tt_to
    | with_reducible refine and_to ?_ ?_
    | with_reducible refine im_to ?_
    | with_reducible refine call_to (fun _ (h : lex_scan_peek s_0 = some _) => lex_scan_peek_fe (B0 := B0) (by simp -implicitDefEqProofs only [go_sem, start, startE, resVs, resV, resC, allV, retK, Nat.reduceBEq, Nat.reduceAdd, Nat.reduceMul, Nat.reduceLeDiff, Nat.reduceEqDiff, Nat.reduceBNe, Nat.ble_eq, UInt8.reduceToNat, UInt32.reduceToNat] <;> simp only [encM_nil])   h) (fun r1 => ?_)
    | with_reducible refine call_to (fun _ (h : lex_scan_open s_0 = some _) => lex_scan_open_fe (B0 := B0) (by simp -implicitDefEqProofs only [go_sem, start, startE, resVs, resV, resC, allV, retK, Nat.reduceBEq, Nat.reduceAdd, Nat.reduceMul, Nat.reduceLeDiff, Nat.reduceEqDiff, Nat.reduceBNe, Nat.ble_eq, UInt8.reduceToNat, UInt32.reduceToNat] <;> simp only [encM_nil])   h) (fun r2 => ?_)
    | with_reducible refine fun hh => lex_scan_hexes_fn (B0 := B0) (by simp -implicitDefEqProofs only [go_sem, start, startE, resVs, resV, resC, allV, retK, Nat.reduceBEq, Nat.reduceAdd, Nat.reduceMul, Nat.reduceLeDiff, Nat.reduceEqDiff, Nat.reduceBNe, Nat.ble_eq, UInt8.reduceToNat, UInt32.reduceToNat] <;> simp only [encM_nil])   (ok_mono (show ok (lex_scan_hexes s_0) _ from hh) fun r3 => ?_)
    | simp -implicitDefEqProofs only [go_sem, start, startE, resVs, resV, resC, allV, retK, Nat.reduceBEq, Nat.reduceAdd, Nat.reduceMul, Nat.reduceLeDiff, Nat.reduceEqDiff, Nat.reduceBNe, Nat.ble_eq, UInt8.reduceToNat, UInt32.reduceToNat])
def lex_scan_closing (s_0 : lex_scan) : Option (lex_Token × Int × lex_scan) :=
  bnd (lex_scan_peek s_0) fun r1 =>
  if (!r1.2) && (!s_0.last_) then
    some ((lex_Token.mk 0 0 0 (api_Value.mk 0 0 (Str.mk []) ([] : List api_Value)) (Str.mk [])), 6, s_0)
  else
    if (!r1.2) || ((r1.1.toNat : Int) != 62) then
      some ((lex_Token.mk 0 0 0 (api_Value.mk 0 0 (Str.mk []) ([] : List api_Value)) (Str.mk [])), 11, s_0)
    else
      some ((lex_Token.mk 5 0 0 (api_Value.mk 0 0 (Str.mk []) ([] : List api_Value)) (Str.mk [])), 0, (lex_scan.mk s_0.Builder s_0.b_ (w64 (s_0.at_ + 1)) s_0.last_))
def ir_lex_scan_closing : IC :=
 (.seq (.reg none [i1 2 (.allocL [.int .i64 0, .int .i64 0, .int .i64 0, .int .i64 0, .int .i64 0, .str [], .sl true 4 0 [], .str []]),
 i1 3 (.mov false (.c (.int .i64 0)))] [0, 2])
 (.seq (.reg none [mv 7 0,
 i1 8 (.call 295 [(.t 7)]),
 i1 6 (.movT (.t 8)),
 i1 9 (.extract (.t 6) 0),
 i1 10 (.extract (.t 6) 1),
 mv 4 9,
 mv 5 10] [0, 2, 4, 5])
 (.seq (.block 0 (.seq (.reg none [mv 12 5,
 i1 13 (.un .not (.t 12)),
 mv 14 13,
 mvg 15 0 14 true,
 i1g 16 14 true (.nilCheck (.t 15)),
 i1g 17 14 true (.fieldAddr 4 (.t 16)),
 i1g 18 14 true (.loadR [.bool false] false (.t 17)),
 i1g 19 14 true (.un .not (.t 18)),
 i1 20 (.pick (.t 14) (.t 19) (.c (.bool false))),
 mv 11 20] [0, 2, 4, 5, 11])
 (.cond (.t 11) (.seq (.reg none [i1 21 (.build [.int .i64 0, .int .i64 0, .int .i64 0, .int .i64 0, .int .i64 0, .str [], .sl true 4 0 [], .str []] []),
 i0 (.store 8 (.t 2) (.t 21)),
 i1 3 (.mov false (.c (.int .i64 6)))] [2, 3])
 .ret)
 (.seq (.reg none [mv 23 5,
 i1 24 (.un .not (.t 23)),
 mv 25 24,
 mvg 26 4 25 false,
 i1g 27 25 false (.bin .neq (.t 26) (.c (.int .u8 62))),
 i1 28 (.pick (.t 25) (.c (.bool true)) (.t 27)),
 mv 22 28] [0, 2, 22])
 (.cond (.t 22) (.seq (.reg none [i1 29 (.build [.int .i64 0, .int .i64 0, .int .i64 0, .int .i64 0, .int .i64 0, .str [], .sl true 4 0 [], .str []] []),
 i0 (.store 8 (.t 2) (.t 29)),
 i1 3 (.mov false (.c (.int .i64 11)))] [2, 3])
 .ret)
 .skip)))))
 (.seq (.reg none [mv 30 0,
 i1 31 (.nilCheck (.t 30)),
 i1 32 (.fieldAddr 3 (.t 31)),
 i1 33 (.loadR [.int .i64 0] false (.t 32)),
 i1 34 (.bin .add (.t 33) (.c (.int .i64 1))),
 i1 35 (.nilCheck (.t 30)),
 i1 36 (.fieldAddr 3 (.t 35)),
 i0 (.store 1 (.t 36) (.t 34))] [2])
 (.seq (.reg none [i1 37 (.build [.int .i64 0, .int .i64 0, .int .i64 0, .int .i64 0, .int .i64 0, .str [], .sl true 4 0 [], .str []] [(0, 1, (.c (.int .i64 5)))]),
 i0 (.store 8 (.t 2) (.t 37)),
 i1 3 (.mov false (.c (.int .i64 0)))] [2, 3])
 .ret)))))
def res_lex_scan_closing : List IRes := [⟨2, false, some (8, true)⟩, ⟨3, true, none⟩]
theorem is_lex_scan_closing : fnIs Go.Proofs.Tryz.prog 258 38 res_lex_scan_closing ir_lex_scan_closing = true := by kernel_rfl
theorem lex_scan_closing_fn {s_0} {B0 : Nat} {s : Store} {Q : List AV → Store → Prop} (hB0 : s B0 = some (.cells [s_0.Builder.a, s_0.Builder.b, .sl false 1 s_0.b_.length (flat s_0.b_), .int .i64 s_0.at_, .bool s_0.last_])) : ok (lex_scan_closing s_0) (fun r => Q [.agg [.int .i64 r.1.Kind, .int .i64 r.1.From, .int .i64 r.1.To, .int .i64 r.1.V.Kind, .int .i64 r.1.V.N, .str r.1.V.S.b, .sl false 4 r.1.V.L.length (flat r.1.V.L), .str r.1.S.b], .int .i64 r.2.1] (s.set B0 (.cells [r.2.2.Builder.a, r.2.2.Builder.b, .sl false 1 r.2.2.b_.length (flat r.2.2.b_), .int .i64 r.2.2.at_, .bool r.2.2.last_]))) → FN Go.Proofs.Tryz.prog 258 [.ref B0 0] s Q := by
  have hS : s = (s.set B0 (.cells [s_0.Builder.a, s_0.Builder.b, .sl false 1 s_0.b_.length (flat s_0.b_), .int .i64 s_0.at_, .bool s_0.last_])) := by simp only [set_eq' hB0]
  rw [hS]
  intro h
  refine FN.of (draw_ok mix) is_lex_scan_closing rfl (Nat.le_of_ble_eq_true rfl) ?_
  revert h
  rw [ir_lex_scan_closing, res_lex_scan_closing, lex_scan_closing]
  repeat' (first
    | with_reducible refine call_to (fun _ (h : lex_scan_peek s_0 = some _) => lex_scan_peek_fe (B0 := B0) (by simp -implicitDefEqProofs only [go_sem, start, startE, resVs, resV, resC, allV, retK, Nat.reduceBEq, Nat.reduceAdd, Nat.reduceMul, Nat.reduceLeDiff, Nat.reduceEqDiff, Nat.reduceBNe, Nat.ble_eq, UInt8.reduceToNat, UInt32.reduceToNat] <;> simp only [encM_nil])   h) (fun r1 => ?_)
    | simp -implicitDefEqProofs only [go_sem, start, startE, resVs, resV, resC, allV, retK, Nat.reduceBEq, Nat.reduceAdd, Nat.reduceMul, Nat.reduceLeDiff, Nat.reduceEqDiff, Nat.reduceBNe, Nat.ble_eq, UInt8.reduceToNat, UInt32.reduceToNat])
def lex_scan_line (s_0 : lex_scan) (c_1 : UInt8) : Option (Bool × lex_scan) :=
  if (c_1.toNat : Int) != 13 then
    some (true, s_0)
  else
    bnd (lex_scan_peek s_0) fun r1 =>
    jn (
      if r1.2 && ((r1.1.toNat : Int) == 10) then
        some (lex_scan.mk s_0.Builder s_0.b_ (w64 (s_0.at_ + 1)) s_0.last_)
      else
        some s_0) fun (o3 : lex_scan) =>
    some (r1.2 || o3.last_, o3)
def ir_lex_scan_line : IC :=
 (.seq (.reg none [i1 4 (.mov false (.c (.bool false)))] [0, 1])
 (.seq (.seq (.reg none [mv 7 1,
 i1 8 (.bin .neq (.t 7) (.c (.int .u8 13)))] [0, 8])
 (.cond (.t 8) (.seq (.reg none [i1 4 (.mov false (.c (.bool true)))] [4])
 .ret)
 .skip))
 (.seq (.reg none [mv 10 0,
 i1 11 (.call 295 [(.t 10)]),
 i1 9 (.movT (.t 11)),
 i1 12 (.extract (.t 9) 0),
 i1 13 (.extract (.t 9) 1),
 mv 5 12,
 mv 6 13] [0, 5, 6])
 (.join [(0, false), (6, false)] (.seq (.reg none [mv 14 6,
 mv 15 14,
 mvg 16 5 15 true,
 i1g 17 15 true (.bin .eql (.t 16) (.c (.int .u8 10))),
 i1 18 (.pick (.t 15) (.t 17) (.c (.bool false)))] [0, 6, 18])
 (.cond (.t 18) (.reg none [mv 19 0,
 i1 20 (.nilCheck (.t 19)),
 i1 21 (.fieldAddr 3 (.t 20)),
 i1 22 (.loadR [.int .i64 0] false (.t 21)),
 i1 23 (.bin .add (.t 22) (.c (.int .i64 1))),
 i1 24 (.nilCheck (.t 19)),
 i1 25 (.fieldAddr 3 (.t 24)),
 i0 (.store 1 (.t 25) (.t 23))] [0, 6])
 .skip))
 (.seq (.reg none [mv 26 6,
 mv 27 26,
 mvg 28 0 27 false,
 i1g 29 27 false (.nilCheck (.t 28)),
 i1g 30 27 false (.fieldAddr 4 (.t 29)),
 i1g 31 27 false (.loadR [.bool false] false (.t 30)),
 i1 32 (.pick (.t 27) (.c (.bool true)) (.t 31)),
 mv 4 32] [4])
 .ret)))))
def res_lex_scan_line : List IRes := [⟨4, true, none⟩]
theorem is_lex_scan_line : fnIs Go.Proofs.Tryz.prog 299 33 res_lex_scan_line ir_lex_scan_line = true := by kernel_rfl
theorem lex_scan_line_fn {s_0 c_1} {B0 : Nat} {s : Store} {Q : List AV → Store → Prop} (hB0 : s B0 = some (.cells [s_0.Builder.a, s_0.Builder.b, .sl false 1 s_0.b_.length (flat s_0.b_), .int .i64 s_0.at_, .bool s_0.last_])) : ok (lex_scan_line s_0 c_1) (fun r => Q [.bool r.1] (s.set B0 (.cells [r.2.Builder.a, r.2.Builder.b, .sl false 1 r.2.b_.length (flat r.2.b_), .int .i64 r.2.at_, .bool r.2.last_]))) → FN Go.Proofs.Tryz.prog 299 [.ref B0 0, .int .u8 c_1.toNat] s Q := by
  have hS : s = (s.set B0 (.cells [s_0.Builder.a, s_0.Builder.b, .sl false 1 s_0.b_.length (flat s_0.b_), .int .i64 s_0.at_, .bool s_0.last_])) := by simp only [set_eq' hB0]
  rw [hS]
  intro h
  refine FN.of (draw_ok mix) is_lex_scan_line rfl (Nat.le_of_ble_eq_true rfl) ?_
  revert h
  rw [ir_lex_scan_line, res_lex_scan_line, lex_scan_line]
  repeat' (first
    | with_reducible exact tt_to
    | with_reducible refine and_to ?_ ?_
    | with_reducible refine im_to ?_
    | with_reducible refine call_to (fun _ (h : lex_scan_peek s_0 = some _) => lex_scan_peek_fe (B0 := B0) (by simp -implicitDefEqProofs only [go_sem, start, startE, resVs, resV, resC, allV, retK, Nat.reduceBEq, Nat.reduceAdd, Nat.reduceMul, Nat.reduceLeDiff, Nat.reduceEqDiff, Nat.reduceBNe, Nat.ble_eq, UInt8.reduceToNat, UInt32.reduceToNat] <;> simp only [encM_nil])   h) (fun r1 => ?_)
    | ((with_reducible refine join_to (fun (o3 : lex_scan) => ⟨[(0, .ref B0 0), (6, .bool r1.2)], [], (s.set B0 (.cells [o3.Builder.a, o3.Builder.b, .sl false 1 o3.b_.length (flat o3.b_), .int .i64 o3.at_, .bool o3.last_]))⟩) (fun J => ?_) ?_); rotate_left; rintro o3)
    | simp -implicitDefEqProofs only [go_sem, start, startE, resVs, resV, resC, allV, retK, Nat.reduceBEq, Nat.reduceAdd, Nat.reduceMul, Nat.reduceLeDiff, Nat.reduceEqDiff, Nat.reduceBNe, Nat.ble_eq, UInt8.reduceToNat, UInt32.reduceToNat])
def lex_scan_escape (s_0 : lex_scan) : Option (Bool × lex_scan) :=
  bnd (lex_scan_peek s_0) fun r1 =>
  if !r1.2 then
    some (false, s_0)
  else
    bnd (strings_IndexByte (Str.mk [110, 114, 116, 98, 102]) r1.1) fun r2 =>
    if decide (r2 ≥ 0) then
      need (0 ≤ r2 ∧ r2 < (Str.mk [10, 13, 9, 8, 12]).b.length) <|
      bnd (strings_Builder_WriteByte s_0.Builder (ix (Str.mk [10, 13, 9, 8, 12]).b r2)) fun r3 =>
      some (true, (lex_scan.mk r3 s_0.b_ (w64 (s_0.at_ + 1)) s_0.last_))
    else
      if (decide ((r1.1.toNat : Int) ≥ 48)) && (decide ((r1.1.toNat : Int) ≤ 55)) then
        bnd (lex_scan_octal (lex_scan.mk s_0.Builder s_0.b_ (w64 (s_0.at_ + 1)) s_0.last_) r1.1) fun r4 =>
        some (r4.1, r4.2)
      else
        if ((r1.1.toNat : Int) == 10) || ((r1.1.toNat : Int) == 13) then
          bnd (lex_scan_line (lex_scan.mk s_0.Builder s_0.b_ (w64 (s_0.at_ + 1)) s_0.last_) r1.1) fun r5 =>
          some (r5.1, r5.2)
        else
          bnd (strings_Builder_WriteByte s_0.Builder r1.1) fun r6 =>
          some (true, (lex_scan.mk r6 s_0.b_ (w64 (s_0.at_ + 1)) s_0.last_))
def ir_lex_scan_escape : IC :=
 (.seq (.reg none [i1 2 (.mov false (.c (.bool false)))] [0])
 (.seq (.reg none [mv 7 0,
 i1 8 (.call 295 [(.t 7)]),
 i1 6 (.movT (.t 8)),
 i1 9 (.extract (.t 6) 0),
 i1 10 (.extract (.t 6) 1),
 mv 3 9,
 mv 4 10] [0, 3, 4])
 (.seq (.seq (.reg none [mv 11 4,
 i1 12 (.un .not (.t 11))] [0, 3, 12])
 (.cond (.t 12) (.seq (.reg none [i1 2 (.mov false (.c (.bool false)))] [2])
 .ret)
 .skip))
 (.seq (.reg none [mv 13 0,
 i1 14 (.nilCheck (.t 13)),
 i1 15 (.fieldAddr 3 (.t 14)),
 i1 16 (.loadR [.int .i64 0] false (.t 15)),
 i1 17 (.bin .add (.t 16) (.c (.int .i64 1))),
 i1 18 (.nilCheck (.t 13)),
 i1 19 (.fieldAddr 3 (.t 18)),
 i0 (.store 1 (.t 19) (.t 17))] [0, 3])
 (.seq (.seq (.reg none [mv 20 3,
 i1 21 (.call 181 [(.c (.str [110, 114, 116, 98, 102])), (.t 20)]),
 mv 5 21] [0, 3, 5])
 (.seq (.reg none [mv 22 5,
 i1 23 (.bin .geq (.t 22) (.c (.int .i64 0)))] [0, 3, 5, 23])
 (.cond (.t 23) (.seq (.regB [] [(0, 0, mv 24 0),
 (0, 1, i1 25 (.nilCheck (.t 24))),
 (0, 2, i1 26 (.fieldAddr 0 (.t 25))),
 (0, 3, mv 27 5),
 (0, 4, i1 28 (.sindex (.c (.str [10, 13, 9, 8, 12])) (.t 27))),
 (2, 5, i1 29 (.call 301 [(.t 26), (.t 28)]))] [])
 (.seq (.reg none [i1 2 (.mov false (.c (.bool true)))] [2])
 .ret))
 .skip)))
 (.seq (.block 0 (.seq (.reg none [mv 31 3,
 i1 32 (.bin .geq (.t 31) (.c (.int .u8 48))),
 mv 33 32,
 mvg 34 3 33 true,
 i1g 35 33 true (.bin .leq (.t 34) (.c (.int .u8 55))),
 i1 36 (.pick (.t 33) (.t 35) (.c (.bool false))),
 mv 30 36] [0, 3, 30])
 (.cond (.t 30) (.seq (.reg none [mv 37 0,
 mv 38 3,
 i1 39 (.call 332 [(.t 37), (.t 38)]),
 mv 2 39] [2])
 .ret)
 (.seq (.reg none [mv 41 3,
 i1 42 (.bin .eql (.t 41) (.c (.int .u8 10))),
 mv 43 42,
 mvg 44 3 43 false,
 i1g 45 43 false (.bin .eql (.t 44) (.c (.int .u8 13))),
 i1 46 (.pick (.t 43) (.c (.bool true)) (.t 45)),
 mv 40 46] [0, 3, 40])
 (.cond (.t 40) (.seq (.reg none [mv 47 0,
 mv 48 3,
 i1 49 (.call 299 [(.t 47), (.t 48)]),
 mv 2 49] [2])
 .ret)
 .skip)))))
 (.seq (.reg none [mv 50 0,
 i1 51 (.nilCheck (.t 50)),
 i1 52 (.fieldAddr 0 (.t 51)),
 mv 53 3,
 i1 54 (.call 301 [(.t 52), (.t 53)])] [])
 (.seq (.reg none [i1 2 (.mov false (.c (.bool true)))] [2])
 .ret))))))))
def res_lex_scan_escape : List IRes := [⟨2, true, none⟩]
theorem is_lex_scan_escape : fnIs Go.Proofs.Tryz.prog 298 55 res_lex_scan_escape ir_lex_scan_escape = true := by kernel_rfl
theorem lex_scan_escape_fn {s_0} {B0 : Nat} {s : Store} {Q : List AV → Store → Prop} (hB0 : s B0 = some (.cells [s_0.Builder.a, s_0.Builder.b, .sl false 1 s_0.b_.length (flat s_0.b_), .int .i64 s_0.at_, .bool s_0.last_])) : ok (lex_scan_escape s_0) (fun r => Q [.bool r.1] (s.set B0 (.cells [r.2.Builder.a, r.2.Builder.b, .sl false 1 r.2.b_.length (flat r.2.b_), .int .i64 r.2.at_, .bool r.2.last_]))) → FN Go.Proofs.Tryz.prog 298 [.ref B0 0] s Q := by
  have hS : s = (s.set B0 (.cells [s_0.Builder.a, s_0.Builder.b, .sl false 1 s_0.b_.length (flat s_0.b_), .int .i64 s_0.at_, .bool s_0.last_])) := by simp only [set_eq' hB0]
  rw [hS]
  intro h
  refine FN.of (draw_ok mix) is_lex_scan_escape rfl (Nat.le_of_ble_eq_true rfl) ?_
  revert h
  rw [ir_lex_scan_escape, res_lex_scan_escape, lex_scan_escape]
  repeat' (first
    | with_reducible exact tt_to
    | with_reducible refine and_to ?_ ?_
    | with_reducible refine im_to ?_
    | with_reducible refine call_to (fun _ (h : lex_scan_peek s_0 = some _) => lex_scan_peek_fe (B0 := B0) (by simp -implicitDefEqProofs only [go_sem, start, startE, resVs, resV, resC, allV, retK, Nat.reduceBEq, Nat.reduceAdd, Nat.reduceMul, Nat.reduceLeDiff, Nat.reduceEqDiff, Nat.reduceBNe, Nat.ble_eq, UInt8.reduceToNat, UInt32.reduceToNat] <;> simp only [encM_nil])   h) (fun r1 => ?_)
    | with_reducible refine call_to (fun _ (h : strings_IndexByte (Str.mk [110, 114, 116, 98, 102]) r1.1 = some _) => strings_IndexByte_fe h) (fun r2 => ?_)
    | with_reducible refine fun hh => strings_Builder_WriteByte_fn (B0 := B0) (preB0 := []) (postB0 := [.sl false 1 s_0.b_.length (flat s_0.b_), .int .i64 (w64 (s_0.at_ + 1)), .bool s_0.last_]) (by simp -implicitDefEqProofs only [go_sem, start, startE, resVs, resV, resC, allV, retK, Nat.reduceBEq, Nat.reduceAdd, Nat.reduceMul, Nat.reduceLeDiff, Nat.reduceEqDiff, Nat.reduceBNe, Nat.ble_eq, UInt8.reduceToNat, UInt32.reduceToNat] <;> simp only [encM_nil]) (by first | rfl | simp)  (ok_mono (show ok (strings_Builder_WriteByte s_0.Builder (ix (Str.mk [10, 13, 9, 8, 12]).b r2)) _ from hh) fun r3 => ?_)
    | with_reducible refine fun hh => lex_scan_octal_fn (B0 := B0) (by simp -implicitDefEqProofs only [go_sem, start, startE, resVs, resV, resC, allV, retK, Nat.reduceBEq, Nat.reduceAdd, Nat.reduceMul, Nat.reduceLeDiff, Nat.reduceEqDiff, Nat.reduceBNe, Nat.ble_eq, UInt8.reduceToNat, UInt32.reduceToNat] <;> simp only [encM_nil])   (ok_mono (show ok (lex_scan_octal (lex_scan.mk s_0.Builder s_0.b_ (w64 (s_0.at_ + 1)) s_0.last_) r1.1) _ from hh) fun r4 => ?_)
    | with_reducible refine fun hh => lex_scan_line_fn (B0 := B0) (by simp -implicitDefEqProofs only [go_sem, start, startE, resVs, resV, resC, allV, retK, Nat.reduceBEq, Nat.reduceAdd, Nat.reduceMul, Nat.reduceLeDiff, Nat.reduceEqDiff, Nat.reduceBNe, Nat.ble_eq, UInt8.reduceToNat, UInt32.reduceToNat] <;> simp only [encM_nil])   (ok_mono (show ok (lex_scan_line (lex_scan.mk s_0.Builder s_0.b_ (w64 (s_0.at_ + 1)) s_0.last_) r1.1) _ from hh) fun r5 => ?_)
    | with_reducible refine fun hh => strings_Builder_WriteByte_fn (B0 := B0) (preB0 := []) (postB0 := [.sl false 1 s_0.b_.length (flat s_0.b_), .int .i64 (w64 (s_0.at_ + 1)), .bool s_0.last_]) (by simp -implicitDefEqProofs only [go_sem, start, startE, resVs, resV, resC, allV, retK, Nat.reduceBEq, Nat.reduceAdd, Nat.reduceMul, Nat.reduceLeDiff, Nat.reduceEqDiff, Nat.reduceBNe, Nat.ble_eq, UInt8.reduceToNat, UInt32.reduceToNat] <;> simp only [encM_nil]) (by first | rfl | simp)  (ok_mono (show ok (strings_Builder_WriteByte s_0.Builder r1.1) _ from hh) fun r6 => ?_)
    | simp -implicitDefEqProofs only [go_sem, start, startE, resVs, resV, resC, allV, retK, Nat.reduceBEq, Nat.reduceAdd, Nat.reduceMul, Nat.reduceLeDiff, Nat.reduceEqDiff, Nat.reduceBNe, Nat.ble_eq, UInt8.reduceToNat, UInt32.reduceToNat])
def lex_scan_text (s_0 : lex_scan) : Option (api_Value × Int × lex_scan) :=
  iter (fun ((deep1, o2) : Int × lex_scan) =>
    bnd (lex_scan_peek o2) fun r6 =>
    if !r6.2 then
      bnd (lex_scan_open o2) fun r7 =>
      some (.inr ((api_Value.mk 0 0 (Str.mk []) ([] : List api_Value)), r7, o2))
    else
      jnS (
        if (r6.1.toNat : Int) == 92 then
          bnd (lex_scan_escape (lex_scan.mk o2.Builder o2.b_ (w64 (o2.at_ + 1)) o2.last_)) fun r18 =>
          if !r18.1 then
            bnd (lex_scan_open r18.2) fun r19 =>
            some (.inr (.inr (r19, r18.2)))
          else
            some (.inr (.inl r18.2))
        else
          if (r6.1.toNat : Int) == 13 then
            bnd (lex_scan_line (lex_scan.mk o2.Builder o2.b_ (w64 (o2.at_ + 1)) o2.last_) r6.1) fun r20 =>
            if !r20.1 then
              bnd (lex_scan_open r20.2) fun r21 =>
              some (.inr (.inr (r21, r20.2)))
            else
              some (.inl (deep1, 10, r20.2))
          else
            if (r6.1.toNat : Int) == 40 then
              some (.inl (w64 (deep1 + 1), r6.1, (lex_scan.mk o2.Builder o2.b_ (w64 (o2.at_ + 1)) o2.last_)))
            else
              if (r6.1.toNat : Int) == 41 then
                some (.inl (w64 (deep1 - 1), r6.1, (lex_scan.mk o2.Builder o2.b_ (w64 (o2.at_ + 1)) o2.last_)))
              else
                some (.inl (deep1, r6.1, (lex_scan.mk o2.Builder o2.b_ (w64 (o2.at_ + 1)) o2.last_)))) (fun ((deep9, c10, o11) : Int × UInt8 × lex_scan) =>
        if deep9 == 0 then
          bnd (strings_Builder_String o11.Builder) fun r22 =>
          some (.inr ((api_Value.mk 4 0 r22.1 ([] : List api_Value)), (0 : Int), (lex_scan.mk r22.2 o11.b_ o11.at_ o11.last_)))
        else
          bnd (strings_Builder_WriteByte o11.Builder c10) fun r23 =>
          some (.inl (deep9, (lex_scan.mk r23 o11.b_ o11.at_ o11.last_))))
      (caseS (fun (o14 : lex_scan) => some (.inl (deep1, o14))) (fun ((t16, o17) : Int × lex_scan) => some (.inr ((api_Value.mk 0 0 (Str.mk []) ([] : List api_Value)), t16, o17))))) (1, s_0)
def ir_lex_scan_text : IC :=
 (.seq (.reg none [i1 2 (.allocL [.int .i64 0, .int .i64 0, .str [], .sl true 4 0 []]),
 i1 3 (.mov false (.c (.int .i64 0)))] [0, 2])
 (.scopeJ 0 [(0, false), (2, false), (4, false)] (.reg none [i1 4 (.mov false (.c (.int .i64 1)))] [0, 2, 4])
 .skip
 .skip
 (.seq (.reg none [mv 8 0,
 i1 9 (.call 295 [(.t 8)]),
 i1 7 (.movT (.t 9)),
 i1 10 (.extract (.t 7) 0),
 i1 11 (.extract (.t 7) 1),
 mv 5 10,
 mv 6 11] [0, 2, 4, 5, 6])
 (.seq (.seq (.reg none [mv 12 6,
 i1 13 (.un .not (.t 12))] [0, 2, 4, 5, 13])
 (.cond (.t 13) (.seq (.reg none [i1 14 (.build [.int .i64 0, .int .i64 0, .str [], .sl true 4 0 []] []),
 mv 15 0,
 i1 16 (.call 296 [(.t 15)]),
 i0 (.store 4 (.t 2) (.t 14)),
 mv 3 16] [2, 3])
 .ret)
 .skip))
 (.seq (.reg none [mv 17 0,
 i1 18 (.nilCheck (.t 17)),
 i1 19 (.fieldAddr 3 (.t 18)),
 i1 20 (.loadR [.int .i64 0] false (.t 19)),
 i1 21 (.bin .add (.t 20) (.c (.int .i64 1))),
 i1 22 (.nilCheck (.t 17)),
 i1 23 (.fieldAddr 3 (.t 22)),
 i0 (.store 1 (.t 23) (.t 21))] [0, 2, 4, 5])
 (.join [(0, false), (2, false), (4, false), (5, false)] (.seq (.reg none [mv 24 5] [0, 2, 4, 5, 24])
 (.block 0 (.seq (.reg none [i1 26 (.bin .eql (.t 24) (.c (.int .u8 92))),
 mv 25 26] [0, 2, 4, 5, 24, 25])
 (.cond (.t 25) (.seq (.seq (.reg none [mv 27 0,
 i1 28 (.call 298 [(.t 27)]),
 i1 29 (.un .not (.t 28))] [0, 2, 4, 29])
 (.cond (.t 29) (.seq (.reg none [i1 30 (.build [.int .i64 0, .int .i64 0, .str [], .sl true 4 0 []] []),
 mv 31 0,
 i1 32 (.call 296 [(.t 31)]),
 i0 (.store 4 (.t 2) (.t 30)),
 mv 3 32] [2, 3])
 .ret)
 .skip))
 (.goto 0))
 (.seq (.reg none [i1 34 (.bin .eql (.t 24) (.c (.int .u8 13))),
 mv 33 34] [0, 2, 4, 5, 24, 33])
 (.cond (.t 33) (.seq (.seq (.reg none [mv 35 0,
 mv 36 5,
 i1 37 (.call 299 [(.t 35), (.t 36)]),
 i1 38 (.un .not (.t 37))] [0, 2, 4, 38])
 (.cond (.t 38) (.seq (.reg none [i1 39 (.build [.int .i64 0, .int .i64 0, .str [], .sl true 4 0 []] []),
 mv 40 0,
 i1 41 (.call 296 [(.t 40)]),
 i0 (.store 4 (.t 2) (.t 39)),
 mv 3 41] [2, 3])
 .ret)
 .skip))
 (.reg none [i1 5 (.mov false (.c (.int .u8 10)))] [0, 2, 4, 5]))
 (.seq (.reg none [i1 43 (.bin .eql (.t 24) (.c (.int .u8 40))),
 mv 42 43] [0, 2, 4, 5, 24, 42])
 (.cond (.t 42) (.reg none [mv 44 4,
 i1 45 (.bin .add (.t 44) (.c (.int .i64 1))),
 mv 4 45] [0, 2, 4, 5])
 (.seq (.reg none [i1 47 (.bin .eql (.t 24) (.c (.int .u8 41))),
 mv 46 47] [0, 2, 4, 5, 46])
 (.cond (.t 46) (.reg none [mv 48 4,
 i1 49 (.bin .sub (.t 48) (.c (.int .i64 1))),
 mv 4 49] [0, 2, 4, 5])
 .skip))))))))))
 (.seq (.seq (.reg none [mv 50 4,
 i1 51 (.bin .eql (.t 50) (.c (.int .i64 0)))] [0, 2, 4, 5, 51])
 (.cond (.t 51) (.seq (.reg none [mv 52 0,
 i1 53 (.nilCheck (.t 52)),
 i1 54 (.fieldAddr 0 (.t 53)),
 i1 55 (.call 300 [(.t 54)]),
 i1 56 (.build [.int .i64 0, .int .i64 0, .str [], .sl true 4 0 []] [(0, 1, (.c (.int .i64 4))), (2, 1, (.t 55))]),
 i0 (.store 4 (.t 2) (.t 56)),
 i1 3 (.mov false (.c (.int .i64 0)))] [2, 3])
 .ret)
 .skip))
 (.seq (.reg none [mv 57 0,
 i1 58 (.nilCheck (.t 57)),
 i1 59 (.fieldAddr 0 (.t 58)),
 mv 60 5,
 i1 61 (.call 301 [(.t 59), (.t 60)])] [0, 2, 4])
 (.goto 0)))))))))
def res_lex_scan_text : List IRes := [⟨2, false, some (4, true)⟩, ⟨3, true, none⟩]
theorem is_lex_scan_text : fnIs Go.Proofs.Tryz.prog 259 62 res_lex_scan_text ir_lex_scan_text = true := by kernel_rfl
theorem lex_scan_text_fn {s_0} {B0 : Nat} {s : Store} {Q : List AV → Store → Prop} (hB0 : s B0 = some (.cells [s_0.Builder.a, s_0.Builder.b, .sl false 1 s_0.b_.length (flat s_0.b_), .int .i64 s_0.at_, .bool s_0.last_])) : ok (lex_scan_text s_0) (fun r => Q [.agg [.int .i64 r.1.Kind, .int .i64 r.1.N, .str r.1.S.b, .sl false 4 r.1.L.length (flat r.1.L)], .int .i64 r.2.1] (s.set B0 (.cells [r.2.2.Builder.a, r.2.2.Builder.b, .sl false 1 r.2.2.b_.length (flat r.2.2.b_), .int .i64 r.2.2.at_, .bool r.2.2.last_]))) → FN Go.Proofs.Tryz.prog 259 [.ref B0 0] s Q := by
  have hS : s = (s.set B0 (.cells [s_0.Builder.a, s_0.Builder.b, .sl false 1 s_0.b_.length (flat s_0.b_), .int .i64 s_0.at_, .bool s_0.last_])) := by simp only [set_eq' hB0]
  rw [hS]
  intro h
  refine FN.of (draw_ok mix) is_lex_scan_text rfl (Nat.le_of_ble_eq_true rfl) ?_
  revert h
  rw [ir_lex_scan_text, res_lex_scan_text, lex_scan_text]
  repeat' (first
    | with_reducible exact tt_to
    | with_reducible refine and_to ?_ ?_
    | with_reducible refine im_to ?_
    | with_reducible refine call_to (fun _ (h : lex_scan_peek o2 = some _) => lex_scan_peek_fe (B0 := B0) (by simp -implicitDefEqProofs only [go_sem, start, startE, resVs, resV, resC, allV, retK, Nat.reduceBEq, Nat.reduceAdd, Nat.reduceMul, Nat.reduceLeDiff, Nat.reduceEqDiff, Nat.reduceBNe, Nat.ble_eq, UInt8.reduceToNat, UInt32.reduceToNat] <;> simp only [encM_nil])   h) (fun r6 => ?_)
    | with_reducible refine call_to (fun _ (h : lex_scan_open o2 = some _) => lex_scan_open_fe (B0 := B0) (by simp -implicitDefEqProofs only [go_sem, start, startE, resVs, resV, resC, allV, retK, Nat.reduceBEq, Nat.reduceAdd, Nat.reduceMul, Nat.reduceLeDiff, Nat.reduceEqDiff, Nat.reduceBNe, Nat.ble_eq, UInt8.reduceToNat, UInt32.reduceToNat] <;> simp only [encM_nil])   h) (fun r7 => ?_)
    | with_reducible refine fun hh => lex_scan_escape_fn (B0 := B0) (by simp -implicitDefEqProofs only [go_sem, start, startE, resVs, resV, resC, allV, retK, Nat.reduceBEq, Nat.reduceAdd, Nat.reduceMul, Nat.reduceLeDiff, Nat.reduceEqDiff, Nat.reduceBNe, Nat.ble_eq, UInt8.reduceToNat, UInt32.reduceToNat] <;> simp only [encM_nil])   (ok_mono (show ok (lex_scan_escape (lex_scan.mk o2.Builder o2.b_ (w64 (o2.at_ + 1)) o2.last_)) _ from hh) fun r18 => ?_)
    | with_reducible refine call_to (fun _ (h : lex_scan_open r18.2 = some _) => lex_scan_open_fe (B0 := B0) (by simp -implicitDefEqProofs only [go_sem, start, startE, resVs, resV, resC, allV, retK, Nat.reduceBEq, Nat.reduceAdd, Nat.reduceMul, Nat.reduceLeDiff, Nat.reduceEqDiff, Nat.reduceBNe, Nat.ble_eq, UInt8.reduceToNat, UInt32.reduceToNat] <;> simp only [encM_nil])   h) (fun r19 => ?_)
    | with_reducible refine fun hh => lex_scan_line_fn (B0 := B0) (by simp -implicitDefEqProofs only [go_sem, start, startE, resVs, resV, resC, allV, retK, Nat.reduceBEq, Nat.reduceAdd, Nat.reduceMul, Nat.reduceLeDiff, Nat.reduceEqDiff, Nat.reduceBNe, Nat.ble_eq, UInt8.reduceToNat, UInt32.reduceToNat] <;> simp only [encM_nil])   (ok_mono (show ok (lex_scan_line (lex_scan.mk o2.Builder o2.b_ (w64 (o2.at_ + 1)) o2.last_) r6.1) _ from hh) fun r20 => ?_)
    | with_reducible refine call_to (fun _ (h : lex_scan_open r20.2 = some _) => lex_scan_open_fe (B0 := B0) (by simp -implicitDefEqProofs only [go_sem, start, startE, resVs, resV, resC, allV, retK, Nat.reduceBEq, Nat.reduceAdd, Nat.reduceMul, Nat.reduceLeDiff, Nat.reduceEqDiff, Nat.reduceBNe, Nat.ble_eq, UInt8.reduceToNat, UInt32.reduceToNat] <;> simp only [encM_nil])   h) (fun r21 => ?_)
    | with_reducible refine fun hh => strings_Builder_String_fn (B0 := B0) (preB0 := []) (postB0 := [.sl false 1 o11.b_.length (flat o11.b_), .int .i64 o11.at_, .bool o11.last_]) (by simp -implicitDefEqProofs only [go_sem, start, startE, resVs, resV, resC, allV, retK, Nat.reduceBEq, Nat.reduceAdd, Nat.reduceMul, Nat.reduceLeDiff, Nat.reduceEqDiff, Nat.reduceBNe, Nat.ble_eq, UInt8.reduceToNat, UInt32.reduceToNat] <;> simp only [encM_nil]) (by first | rfl | simp)  (ok_mono (show ok (strings_Builder_String o11.Builder) _ from hh) fun r22 => ?_)
    | with_reducible refine fun hh => strings_Builder_WriteByte_fn (B0 := B0) (preB0 := []) (postB0 := [.sl false 1 o11.b_.length (flat o11.b_), .int .i64 o11.at_, .bool o11.last_]) (by simp -implicitDefEqProofs only [go_sem, start, startE, resVs, resV, resC, allV, retK, Nat.reduceBEq, Nat.reduceAdd, Nat.reduceMul, Nat.reduceLeDiff, Nat.reduceEqDiff, Nat.reduceBNe, Nat.ble_eq, UInt8.reduceToNat, UInt32.reduceToNat] <;> simp only [encM_nil]) (by first | rfl | simp)  (ok_mono (show ok (strings_Builder_WriteByte o11.Builder c10) _ from hh) fun r23 => ?_)
    | ((with_reducible refine join_toS (fun ((deep9, c10, o11) : Int × UInt8 × lex_scan) => ⟨[(0, .ref B0 0), (2, .loc [.int .i64 0, .int .i64 0, .str (Str.mk []).b, .sl true 4 ([] : List api_Value).length (flat ([] : List api_Value))]), (4, .int .i64 deep9), (5, .int .u8 c10.toNat)], [], (s.set B0 (.cells [o11.Builder.a, o11.Builder.b, .sl false 1 o11.b_.length (flat o11.b_), .int .i64 o11.at_, .bool o11.last_]))⟩) (fun J => ?_) ?_); rotate_left; rintro ⟨deep9, c10, o11⟩)
    | ((with_reducible refine jump_to (fun ((deep1, o2) : Int × lex_scan) => ⟨[(0, .ref B0 0), (2, .loc [.int .i64 0, .int .i64 0, .str (Str.mk []).b, .sl true 4 ([] : List api_Value).length (flat ([] : List api_Value))]), (4, .int .i64 deep1)], [], (s.set B0 (.cells [o2.Builder.a, o2.Builder.b, .sl false 1 o2.b_.length (flat o2.b_), .int .i64 o2.at_, .bool o2.last_]))⟩) ?_ ?_); (first | exact rfl | simp -implicitDefEqProofs only [go_sem, start, startE, resVs, resV, resC, allV, retK, Nat.reduceBEq, Nat.reduceAdd, Nat.reduceMul, Nat.reduceLeDiff, Nat.reduceEqDiff, Nat.reduceBNe, Nat.ble_eq, UInt8.reduceToNat, UInt32.reduceToNat]); rintro J ⟨deep1, o2⟩)
    | simp -implicitDefEqProofs only [go_sem, start, startE, resVs, resV, resC, allV, retK, Nat.reduceBEq, Nat.reduceAdd, Nat.reduceMul, Nat.reduceLeDiff, Nat.reduceEqDiff, Nat.reduceBNe, Nat.ble_eq, UInt8.reduceToNat, UInt32.reduceToNat])
def lex_scan_token (s_0 : lex_scan) (c_1 : UInt8) : Option (lex_Token × Int × lex_scan) :=
  bnd (lex_regular c_1) fun r1 =>
  if r1 then
    bnd (lex_scan_regulars s_0) fun r2 =>
    some (r2.1, r2.2.1, r2.2.2)
  else
    if (c_1.toNat : Int) == 91 then
      some ((lex_Token.mk 2 0 0 (api_Value.mk 0 0 (Str.mk []) ([] : List api_Value)) (Str.mk [])), 0, (lex_scan.mk s_0.Builder s_0.b_ (w64 (s_0.at_ + 1)) s_0.last_))
    else
      if (c_1.toNat : Int) == 93 then
        some ((lex_Token.mk 3 0 0 (api_Value.mk 0 0 (Str.mk []) ([] : List api_Value)) (Str.mk [])), 0, (lex_scan.mk s_0.Builder s_0.b_ (w64 (s_0.at_ + 1)) s_0.last_))
      else
        if (c_1.toNat : Int) == 60 then
          bnd (lex_scan_opening (lex_scan.mk s_0.Builder s_0.b_ (w64 (s_0.at_ + 1)) s_0.last_)) fun r3 =>
          some (r3.1, r3.2.1, r3.2.2)
        else
          if (c_1.toNat : Int) == 62 then
            bnd (lex_scan_closing (lex_scan.mk s_0.Builder s_0.b_ (w64 (s_0.at_ + 1)) s_0.last_)) fun r4 =>
            some (r4.1, r4.2.1, r4.2.2)
          else
            if (c_1.toNat : Int) == 40 then
              bnd (lex_scan_text (lex_scan.mk s_0.Builder s_0.b_ (w64 (s_0.at_ + 1)) s_0.last_)) fun r5 =>
              some ((lex_Token.mk 1 0 0 r5.1 (Str.mk [])), r5.2.1, r5.2.2)
            else
              if (c_1.toNat : Int) == 47 then
                bnd (lex_scan_word (lex_scan.mk s_0.Builder s_0.b_ (w64 (s_0.at_ + 1)) s_0.last_)) fun r6 =>
                if !r6.2.1 then
                  some ((lex_Token.mk 0 0 0 (api_Value.mk 0 0 (Str.mk []) ([] : List api_Value)) (Str.mk [])), 6, r6.2.2)
                else
                  bnd (lex_name r6.1) fun r7 =>
                  some ((lex_Token.mk 1 0 0 r7.1 (Str.mk [])), r7.2, r6.2.2)
              else
                some ((lex_Token.mk 0 0 0 (api_Value.mk 0 0 (Str.mk []) ([] : List api_Value)) (Str.mk [])), 11, (lex_scan.mk s_0.Builder s_0.b_ (w64 (s_0.at_ + 1)) s_0.last_))
def ir_lex_scan_token : IC :=
 (.seq (.reg none [i1 4 (.allocL [.int .i64 0, .int .i64 0, .int .i64 0, .int .i64 0, .int .i64 0, .str [], .sl true 4 0 [], .str []]),
 i1 5 (.mov false (.c (.int .i64 0)))] [0, 1, 4])
 (.seq (.seq (.reg none [mv 12 1,
 i1 13 (.call 255 [(.t 12)])] [0, 1, 4, 13])
 (.cond (.t 13) (.seq (.reg none [mv 14 0,
 i1 15 (.call 256 [(.t 14)]),
 i1 16 (.extract (.t 15) 0),
 i1 17 (.extract (.t 15) 1),
 i0 (.store 8 (.t 4) (.t 16)),
 mv 5 17] [4, 5])
 .ret)
 .skip))
 (.seq (.reg none [mv 18 0,
 i1 19 (.nilCheck (.t 18)),
 i1 20 (.fieldAddr 3 (.t 19)),
 i1 21 (.loadR [.int .i64 0] false (.t 20)),
 i1 22 (.bin .add (.t 21) (.c (.int .i64 1))),
 i1 23 (.nilCheck (.t 18)),
 i1 24 (.fieldAddr 3 (.t 23)),
 i0 (.store 1 (.t 24) (.t 22))] [0, 1, 4])
 (.seq (.seq (.reg none [mv 25 1] [0, 4, 25])
 (.block 0 (.seq (.reg none [i1 27 (.bin .eql (.t 25) (.c (.int .u8 91))),
 mv 26 27] [0, 4, 25, 26])
 (.cond (.t 26) (.seq (.reg none [i1 28 (.build [.int .i64 0, .int .i64 0, .int .i64 0, .int .i64 0, .int .i64 0, .str [], .sl true 4 0 [], .str []] [(0, 1, (.c (.int .i64 2)))]),
 i0 (.store 8 (.t 4) (.t 28)),
 i1 5 (.mov false (.c (.int .i64 0)))] [4, 5])
 .ret)
 (.seq (.reg none [i1 30 (.bin .eql (.t 25) (.c (.int .u8 93))),
 mv 29 30] [0, 4, 25, 29])
 (.cond (.t 29) (.seq (.reg none [i1 31 (.build [.int .i64 0, .int .i64 0, .int .i64 0, .int .i64 0, .int .i64 0, .str [], .sl true 4 0 [], .str []] [(0, 1, (.c (.int .i64 3)))]),
 i0 (.store 8 (.t 4) (.t 31)),
 i1 5 (.mov false (.c (.int .i64 0)))] [4, 5])
 .ret)
 (.seq (.reg none [i1 33 (.bin .eql (.t 25) (.c (.int .u8 60))),
 mv 32 33] [0, 4, 25, 32])
 (.cond (.t 32) (.seq (.reg none [mv 34 0,
 i1 35 (.call 257 [(.t 34)]),
 i1 36 (.extract (.t 35) 0),
 i1 37 (.extract (.t 35) 1),
 i0 (.store 8 (.t 4) (.t 36)),
 mv 5 37] [4, 5])
 .ret)
 (.seq (.reg none [i1 39 (.bin .eql (.t 25) (.c (.int .u8 62))),
 mv 38 39] [0, 4, 25, 38])
 (.cond (.t 38) (.seq (.reg none [mv 40 0,
 i1 41 (.call 258 [(.t 40)]),
 i1 42 (.extract (.t 41) 0),
 i1 43 (.extract (.t 41) 1),
 i0 (.store 8 (.t 4) (.t 42)),
 mv 5 43] [4, 5])
 .ret)
 (.seq (.reg none [i1 45 (.bin .eql (.t 25) (.c (.int .u8 40))),
 mv 44 45] [0, 4, 25, 44])
 (.cond (.t 44) (.seq (.reg none [mv 47 0,
 i1 48 (.call 259 [(.t 47)]),
 i1 46 (.movT (.t 48)),
 i1 49 (.extract (.t 46) 0),
 i1 50 (.extract (.t 46) 1),
 i1 6 (.allocL [.int .i64 0, .int .i64 0, .str [], .sl true 4 0 []]),
 i0 (.store 4 (.t 6) (.t 49)),
 mv 7 50] [4, 6, 7])
 (.seq (.reg none [i1 51 (.load 4 true (.t 6)),
 i1 52 (.build [.int .i64 0, .int .i64 0, .int .i64 0, .int .i64 0, .int .i64 0, .str [], .sl true 4 0 [], .str []] [(0, 1, (.c (.int .i64 1))), (3, 4, (.t 51))]),
 mv 53 7,
 i0 (.store 8 (.t 4) (.t 52)),
 mv 5 53] [4, 5])
 .ret))
 (.seq (.reg none [i1 55 (.bin .eql (.t 25) (.c (.int .u8 47))),
 mv 54 55] [0, 4, 54])
 (.cond (.t 54) (.seq (.reg none [mv 57 0,
 i1 58 (.call 260 [(.t 57)]),
 i1 56 (.movT (.t 58)),
 i1 59 (.extract (.t 56) 0),
 i1 60 (.extract (.t 56) 1),
 mv 8 59,
 mv 9 60] [4, 8, 9])
 (.seq (.seq (.reg none [mv 61 9,
 i1 62 (.un .not (.t 61))] [4, 8, 62])
 (.cond (.t 62) (.seq (.reg none [i1 63 (.build [.int .i64 0, .int .i64 0, .int .i64 0, .int .i64 0, .int .i64 0, .str [], .sl true 4 0 [], .str []] []),
 i0 (.store 8 (.t 4) (.t 63)),
 i1 5 (.mov false (.c (.int .i64 6)))] [4, 5])
 .ret)
 .skip))
 (.seq (.reg none [mv 65 8,
 i1 66 (.call 261 [(.t 65)]),
 i1 64 (.movT (.t 66)),
 i1 67 (.extract (.t 64) 0),
 i1 68 (.extract (.t 64) 1),
 i1 10 (.allocL [.int .i64 0, .int .i64 0, .str [], .sl true 4 0 []]),
 i0 (.store 4 (.t 10) (.t 67)),
 mv 11 68] [4, 10, 11])
 (.seq (.reg none [i1 69 (.load 4 true (.t 10)),
 i1 70 (.build [.int .i64 0, .int .i64 0, .int .i64 0, .int .i64 0, .int .i64 0, .str [], .sl true 4 0 [], .str []] [(0, 1, (.c (.int .i64 1))), (3, 4, (.t 69))]),
 mv 71 11,
 i0 (.store 8 (.t 4) (.t 70)),
 mv 5 71] [4, 5])
 .ret))))
 .skip))))))))))))))
 (.seq (.reg none [i1 72 (.build [.int .i64 0, .int .i64 0, .int .i64 0, .int .i64 0, .int .i64 0, .str [], .sl true 4 0 [], .str []] []),
 i0 (.store 8 (.t 4) (.t 72)),
 i1 5 (.mov false (.c (.int .i64 11)))] [4, 5])
 .ret)))))
def res_lex_scan_token : List IRes := [⟨4, false, some (8, true)⟩, ⟨5, true, none⟩]
theorem is_lex_scan_token : fnIs Go.Proofs.Tryz.prog 226 73 res_lex_scan_token ir_lex_scan_token = true := by kernel_rfl
theorem lex_scan_token_fn {s_0 c_1} {B0 : Nat} {s : Store} {Q : List AV → Store → Prop} (hB0 : s B0 = some (.cells [s_0.Builder.a, s_0.Builder.b, .sl false 1 s_0.b_.length (flat s_0.b_), .int .i64 s_0.at_, .bool s_0.last_])) : ok (lex_scan_token s_0 c_1) (fun r => Q [.agg [.int .i64 r.1.Kind, .int .i64 r.1.From, .int .i64 r.1.To, .int .i64 r.1.V.Kind, .int .i64 r.1.V.N, .str r.1.V.S.b, .sl false 4 r.1.V.L.length (flat r.1.V.L), .str r.1.S.b], .int .i64 r.2.1] (s.set B0 (.cells [r.2.2.Builder.a, r.2.2.Builder.b, .sl false 1 r.2.2.b_.length (flat r.2.2.b_), .int .i64 r.2.2.at_, .bool r.2.2.last_]))) → FN Go.Proofs.Tryz.prog 226 [.ref B0 0, .int .u8 c_1.toNat] s Q := by
  have hS : s = (s.set B0 (.cells [s_0.Builder.a, s_0.Builder.b, .sl false 1 s_0.b_.length (flat s_0.b_), .int .i64 s_0.at_, .bool s_0.last_])) := by simp only [set_eq' hB0]
  rw [hS]
  intro h
  refine FN.of (draw_ok mix) is_lex_scan_token rfl (Nat.le_of_ble_eq_true rfl) ?_
  revert h
  rw [ir_lex_scan_token, res_lex_scan_token, lex_scan_token]
  repeat' (first
    | with_reducible exact tt_to
    | with_reducible refine and_to ?_ ?_
    | with_reducible refine im_to ?_
    | with_reducible refine call_to (fun _ (h : lex_regular c_1 = some _) => lex_regular_fe h) (fun r1 => ?_)
    | with_reducible refine fun hh => lex_scan_regulars_fn (B0 := B0) (by simp -implicitDefEqProofs only [go_sem, start, startE, resVs, resV, resC, allV, retK, Nat.reduceBEq, Nat.reduceAdd, Nat.reduceMul, Nat.reduceLeDiff, Nat.reduceEqDiff, Nat.reduceBNe, Nat.ble_eq, UInt8.reduceToNat, UInt32.reduceToNat] <;> simp only [encM_nil])   (ok_mono (show ok (lex_scan_regulars s_0) _ from hh) fun r2 => ?_)
    | with_reducible refine fun hh => lex_scan_opening_fn (B0 := B0) (by simp -implicitDefEqProofs only [go_sem, start, startE, resVs, resV, resC, allV, retK, Nat.reduceBEq, Nat.reduceAdd, Nat.reduceMul, Nat.reduceLeDiff, Nat.reduceEqDiff, Nat.reduceBNe, Nat.ble_eq, UInt8.reduceToNat, UInt32.reduceToNat] <;> simp only [encM_nil])   (ok_mono (show ok (lex_scan_opening (lex_scan.mk s_0.Builder s_0.b_ (w64 (s_0.at_ + 1)) s_0.last_)) _ from hh) fun r3 => ?_)
    | with_reducible refine fun hh => lex_scan_closing_fn (B0 := B0) (by simp -implicitDefEqProofs only [go_sem, start, startE, resVs, resV, resC, allV, retK, Nat.reduceBEq, Nat.reduceAdd, Nat.reduceMul, Nat.reduceLeDiff, Nat.reduceEqDiff, Nat.reduceBNe, Nat.ble_eq, UInt8.reduceToNat, UInt32.reduceToNat] <;> simp only [encM_nil])   (ok_mono (show ok (lex_scan_closing (lex_scan.mk s_0.Builder s_0.b_ (w64 (s_0.at_ + 1)) s_0.last_)) _ from hh) fun r4 => ?_)
    | with_reducible refine fun hh => lex_scan_text_fn (B0 := B0) (by simp -implicitDefEqProofs only [go_sem, start, startE, resVs, resV, resC, allV, retK, Nat.reduceBEq, Nat.reduceAdd, Nat.reduceMul, Nat.reduceLeDiff, Nat.reduceEqDiff, Nat.reduceBNe, Nat.ble_eq, UInt8.reduceToNat, UInt32.reduceToNat] <;> simp only [encM_nil])   (ok_mono (show ok (lex_scan_text (lex_scan.mk s_0.Builder s_0.b_ (w64 (s_0.at_ + 1)) s_0.last_)) _ from hh) fun r5 => ?_)
    | with_reducible refine fun hh => lex_scan_word_fn (B0 := B0) (by simp -implicitDefEqProofs only [go_sem, start, startE, resVs, resV, resC, allV, retK, Nat.reduceBEq, Nat.reduceAdd, Nat.reduceMul, Nat.reduceLeDiff, Nat.reduceEqDiff, Nat.reduceBNe, Nat.ble_eq, UInt8.reduceToNat, UInt32.reduceToNat] <;> simp only [encM_nil])   (ok_mono (show ok (lex_scan_word (lex_scan.mk s_0.Builder s_0.b_ (w64 (s_0.at_ + 1)) s_0.last_)) _ from hh) fun r6 => ?_)
    | with_reducible refine call_to (fun _ (h : lex_name r6.1 = some _) => lex_name_fe h) (fun r7 => ?_)
    | simp -implicitDefEqProofs only [go_sem, start, startE, resVs, resV, resC, allV, retK, Nat.reduceBEq, Nat.reduceAdd, Nat.reduceMul, Nat.reduceLeDiff, Nat.reduceEqDiff, Nat.reduceBNe, Nat.ble_eq, UInt8.reduceToNat, UInt32.reduceToNat])
def lex_Next (b_0 : (List UInt8)) (at_1 : Int) (last_2 : Bool) : Option (lex_Token × Int) :=
  if (decide (at_1 < 0)) || (decide (at_1 > (b_0.length : Int))) then
    some ((lex_Token.mk 0 0 0 (api_Value.mk 0 0 (Str.mk []) ([] : List api_Value)) (Str.mk [])), 2)
  else
    bnd (lex_Skip b_0 at_1) fun r1 =>
    if r1 == (b_0.length : Int) then
      if last_2 then
        some ((lex_Token.mk 0 r1 r1 (api_Value.mk 0 0 (Str.mk []) ([] : List api_Value)) (Str.mk [])), 0)
      else
        some ((lex_Token.mk 0 r1 r1 (api_Value.mk 0 0 (Str.mk []) ([] : List api_Value)) (Str.mk [])), 6)
    else
      need (0 ≤ r1 ∧ r1 < b_0.length) <|
      bnd (lex_scan_token (lex_scan.mk Bld.zero b_0 r1 last_2) (ix b_0 r1)) fun r2 =>
      if r2.2.1 != 0 then
        some ((lex_Token.mk 0 r1 r1 (api_Value.mk 0 0 (Str.mk []) ([] : List api_Value)) (Str.mk [])), r2.2.1)
      else
        some ((lex_Token.mk r2.1.Kind r1 r2.2.2.at_ r2.1.V r2.1.S), 0)
def ir_lex_Next : IC :=
 (.seq (.reg none [i1 6 (.allocL [.int .i64 0, .int .i64 0, .int .i64 0, .int .i64 0, .int .i64 0, .str [], .sl true 4 0 [], .str []]),
 i1 7 (.mov false (.c (.int .i64 0)))] [0, 1, 2, 6])
 (.seq (.seq (.reg none [mv 12 1,
 i1 13 (.bin .lss (.t 12) (.c (.int .i64 0))),
 mv 14 13,
 mvg 15 1 14 false,
 mvg 16 0 14 false,
 i1g 17 14 false (.len 0 (.t 16)),
 i1g 18 14 false (.bin .gtr (.t 15) (.t 17)),
 i1 19 (.pick (.t 14) (.c (.bool true)) (.t 18))] [0, 1, 2, 6, 19])
 (.cond (.t 19) (.seq (.reg none [i1 20 (.build [.int .i64 0, .int .i64 0, .int .i64 0, .int .i64 0, .int .i64 0, .str [], .sl true 4 0 [], .str []] []),
 i0 (.store 8 (.t 6) (.t 20)),
 i1 7 (.mov false (.c (.int .i64 2)))] [6, 7])
 .ret)
 .skip))
 (.seq (.reg none [mv 21 0,
 mv 22 1,
 i1 23 (.call 225 [(.t 21), (.t 22)]),
 mv 8 23] [0, 2, 6, 8])
 (.seq (.seq (.reg none [mv 24 8,
 mv 25 0,
 i1 26 (.len 0 (.t 25)),
 i1 27 (.bin .eql (.t 24) (.t 26))] [0, 2, 6, 8, 27])
 (.cond (.t 27) (.seq (.seq (.reg none [mv 28 2] [6, 8, 28])
 (.cond (.t 28) (.seq (.reg none [mv 29 8,
 mv 30 8,
 i1 31 (.build [.int .i64 0, .int .i64 0, .int .i64 0, .int .i64 0, .int .i64 0, .str [], .sl true 4 0 [], .str []] [(1, 1, (.t 29)), (2, 1, (.t 30))]),
 i0 (.store 8 (.t 6) (.t 31)),
 i1 7 (.mov false (.c (.int .i64 0)))] [6, 7])
 .ret)
 .skip))
 (.seq (.reg none [mv 32 8,
 mv 33 8,
 i1 34 (.build [.int .i64 0, .int .i64 0, .int .i64 0, .int .i64 0, .int .i64 0, .str [], .sl true 4 0 [], .str []] [(1, 1, (.t 32)), (2, 1, (.t 33))]),
 i0 (.store 8 (.t 6) (.t 34)),
 i1 7 (.mov false (.c (.int .i64 6)))] [6, 7])
 .ret))
 .skip))
 (.seq (.reg none [mv 35 0,
 mv 36 8,
 mv 37 2,
 i1 38 (.build [.nilp, .sl true 1 0 [], .sl true 1 0 [], .int .i64 0, .bool false] [(2, 1, (.t 35)), (3, 1, (.t 36)), (4, 1, (.t 37))]),
 i1 39 (.boxS 5 (.t 38)),
 mv 9 39] [0, 6, 8, 9])
 (.seq (.reg none [mv 41 9,
 mt 42 0,
 mv 43 8,
 i1 44 (.indexAddr [.int .u8 0] (.t 42) (.t 43)),
 i1 45 (.load 1 false (.t 44)),
 i1 46 (.call 226 [(.t 41), (.t 45)]),
 i1 40 (.movT (.t 46)),
 i1 47 (.extract (.t 40) 0),
 i1 48 (.extract (.t 40) 1),
 i1 10 (.allocL [.int .i64 0, .int .i64 0, .int .i64 0, .int .i64 0, .int .i64 0, .str [], .sl true 4 0 [], .str []]),
 i0 (.store 8 (.t 10) (.t 47)),
 mv 11 48] [6, 8, 9, 10, 11])
 (.seq (.seq (.reg none [mv 49 11,
 i1 50 (.bin .neq (.t 49) (.c (.int .i64 0)))] [6, 8, 9, 10, 11, 50])
 (.cond (.t 50) (.seq (.reg none [mv 51 8,
 mv 52 8,
 i1 53 (.build [.int .i64 0, .int .i64 0, .int .i64 0, .int .i64 0, .int .i64 0, .str [], .sl true 4 0 [], .str []] [(1, 1, (.t 51)), (2, 1, (.t 52))]),
 mv 54 11,
 i0 (.store 8 (.t 6) (.t 53)),
 mv 7 54] [6, 7])
 .ret)
 .skip))
 (.seq (.regX [[false, false, false, false, false, false, false, false, false], [false, false, false, false, false, false, false, false, false], [false, true, false, false, false, false, false, false, false], [false, false, true, false, false, false, false, false, false], [false, false, false, true, false, false, false, false, false], [true, false, false, false, false, false, false, false, false], [true, false, false, false, false, true, false, false, false], [true, true, true, true, true, true, true, false, false], [true, true, true, true, true, true, true, true, false]] [mv 55 8,
 mv 56 9,
 i1 57 (.nilCheck (.t 56)),
 i1 58 (.fieldAddr 3 (.t 57)),
 i1 59 (.loadR [.int .i64 0] false (.t 58)),
 i1 60 (.fieldAddr 1 (.t 10)),
 i0 (.store 1 (.t 60) (.t 55)),
 i1 61 (.fieldAddr 2 (.t 10)),
 i0 (.store 1 (.t 61) (.t 59))] [6, 10])
 (.seq (.reg none [i1 62 (.load 8 true (.t 10)),
 i0 (.store 8 (.t 6) (.t 62)),
 i1 7 (.mov false (.c (.int .i64 0)))] [6, 7])
 .ret)))))))))
def res_lex_Next : List IRes := [⟨6, false, some (8, true)⟩, ⟨7, true, none⟩]
theorem is_lex_Next : fnIs Go.Proofs.Tryz.prog 185 63 res_lex_Next ir_lex_Next = true := by kernel_rfl
set_option maxHeartbeats 8000000 in
theorem lex_Next_fn {b_0 at_1 last_2} {s : Store} {Q : List AV → Store → Prop}  : ok (lex_Next b_0 at_1 last_2) (fun r => Q [.agg [.int .i64 r.1.Kind, .int .i64 r.1.From, .int .i64 r.1.To, .int .i64 r.1.V.Kind, .int .i64 r.1.V.N, .str r.1.V.S.b, .sl false 4 r.1.V.L.length (flat r.1.V.L), .str r.1.S.b], .int .i64 r.2] s) → FN Go.Proofs.Tryz.prog 185 [.sl false 1 b_0.length (flat b_0), .int .i64 at_1, .bool last_2] s Q := by
  intro h
  refine FN.forget ?_
  refine FN.of (draw_ok mix) is_lex_Next rfl (Nat.le_of_ble_eq_true rfl) ?_
  revert h
  rw [ir_lex_Next, res_lex_Next, lex_Next]
  repeat' (first
    | with_reducible exact tt_to
    | with_reducible refine and_to ?_ ?_
    | with_reducible refine im_to ?_
    | ((with_reducible apply x_to); (· intro Q' hQ; repeat' (first | exact hQ | (simp only [xwpK_eq, xwp_cons, xalt_cons, xalt_nil, xrdy, xrev, Bool.not_true, Bool.not_false, Bool.or_true, Bool.true_or, Bool.false_or, Bool.or_false, Bool.and_true, Bool.true_and, Bool.and_false, Bool.false_and, cond_true, cond_false, true_and, and_true]; done) | with_reducible refine ⟨?_, ?_⟩ | with_reducible exact trivial | simp only [xwpK_eq, xwp_cons, xalt_cons, xalt_nil, xrdy, xrev, Bool.not_true, Bool.not_false, Bool.or_true, Bool.true_or, Bool.false_or, Bool.or_false, Bool.and_true, Bool.true_and, Bool.and_false, Bool.false_and, cond_true, cond_false, true_and, and_true] | simp -implicitDefEqProofs only [go_sem, start, startE, resVs, resV, resC, allV, retK, Nat.reduceBEq, Nat.reduceAdd, Nat.reduceMul, Nat.reduceLeDiff, Nat.reduceEqDiff, Nat.reduceBNe, Nat.ble_eq, UInt8.reduceToNat, UInt32.reduceToNat])))
    | with_reducible refine call_to (fun _ (h : lex_Skip b_0 at_1 = some _) => lex_Skip_fe h) (fun r1 => ?_)
    | with_reducible refine fun hh => lex_scan_token_fn (B0 := N1) (by simp -implicitDefEqProofs only [go_sem, start, startE, resVs, resV, resC, allV, retK, Nat.reduceBEq, Nat.reduceAdd, Nat.reduceMul, Nat.reduceLeDiff, Nat.reduceEqDiff, Nat.reduceBNe, Nat.ble_eq, UInt8.reduceToNat, UInt32.reduceToNat] <;> simp only [encM_nil])   (ok_mono (show ok (lex_scan_token (lex_scan.mk Bld.zero b_0 r1 last_2) (ix b_0 r1)) _ from hh) fun r2 => ?_)
    | ((fail_if_success (have _x := sN1)); with_reducible intro hh N1 hN1; (try simp only [set_none] at hN1); have sN1 := hN1; revert hh)
    | with_reducible exact fun hh => ⟨_, SubS.set (SubS.refl _) (by simp [Store.set, sN1]), hh⟩
    | with_reducible exact fun hh => ⟨_, SubS.refl _, hh⟩
    | simp -implicitDefEqProofs only [go_sem, start, startE, resVs, resV, resC, allV, retK, Nat.reduceBEq, Nat.reduceAdd, Nat.reduceMul, Nat.reduceLeDiff, Nat.reduceEqDiff, Nat.reduceBNe, Nat.ble_eq, UInt8.reduceToNat, UInt32.reduceToNat])
theorem lex_Next_fe {b_0 at_1 last_2} {s : Store} {r : lex_Token × Int}  (h : lex_Next b_0 at_1 last_2 = some r) : FE Go.Proofs.Tryz.prog 185 [.sl false 1 b_0.length (flat b_0), .int .i64 at_1, .bool last_2] s [.agg [.int .i64 r.1.Kind, .int .i64 r.1.From, .int .i64 r.1.To, .int .i64 r.1.V.Kind, .int .i64 r.1.V.N, .str r.1.V.S.b, .sl false 4 r.1.V.L.length (flat r.1.V.L), .str r.1.S.b], .int .i64 r.2] s := lex_Next_fn  ⟨r, h, rfl, rfl⟩
end Go.AB
end

section
set_option maxRecDepth 4000
namespace Go.AB
open Go
def ir_parse_one : IC :=
 (.seq (.reg none [i1 8 (.allocL [.int .i64 0, .int .i64 0, .int .i64 0, .int .i64 0, .int .i64 0, .str [], .sl true 4 0 [], .str []]),
 i1 9 (.mov false (.c (.int .i64 0)))] [0, 1, 2, 3, 8])
 (.seq (.reg none [mt 13 0,
 mv 14 1,
 mv 15 2,
 i1 16 (.call 185 [(.t 13), (.t 14), (.t 15)]),
 i1 12 (.movT (.t 16)),
 i1 17 (.extract (.t 12) 0),
 i1 18 (.extract (.t 12) 1),
 i1 10 (.allocL [.int .i64 0, .int .i64 0, .int .i64 0, .int .i64 0, .int .i64 0, .str [], .sl true 4 0 [], .str []]),
 i0 (.store 8 (.t 10) (.t 17)),
 mv 11 18] [3, 8, 10, 11])
 (.seq (.block 0 (.seq (.reg none [mv 20 11,
 i1 21 (.bin .neq (.t 20) (.c (.int .i64 0))),
 mv 19 21] [3, 8, 10, 11, 19])
 (.cond (.t 19) (.seq (.reg none [i1 22 (.build [.int .i64 0, .int .i64 0, .int .i64 0, .int .i64 0, .int .i64 0, .str [], .sl true 4 0 [], .str []] []),
 mv 23 11,
 i0 (.store 8 (.t 8) (.t 22)),
 mv 9 23] [8, 9])
 .ret)
 (.seq (.reg none [i1 25 (.fieldAddr 0 (.t 10)),
 i1 26 (.load 1 false (.t 25)),
 i1 27 (.bin .eql (.t 26) (.c (.int .i64 0))),
 mv 24 27] [3, 8, 10, 24])
 (.cond (.t 24) (.seq (.reg none [i1 28 (.build [.int .i64 0, .int .i64 0, .int .i64 0, .int .i64 0, .int .i64 0, .str [], .sl true 4 0 [], .str []] []),
 i0 (.store 8 (.t 8) (.t 28)),
 i1 9 (.mov false (.c (.int .i64 10)))] [8, 9])
 .ret)
 (.seq (.reg none [mv 30 3,
 i1 31 (.load 8 true (.t 10)),
 i1 32 (.callv (.t 30) [(.t 31)]),
 i1 33 (.un .not (.t 32)),
 mv 29 33] [8, 10, 29])
 (.cond (.t 29) (.seq (.reg none [i1 34 (.build [.int .i64 0, .int .i64 0, .int .i64 0, .int .i64 0, .int .i64 0, .str [], .sl true 4 0 [], .str []] []),
 i0 (.store 8 (.t 8) (.t 34)),
 i1 9 (.mov false (.c (.int .i64 11)))] [8, 9])
 .ret)
 .skip)))))))
 (.seq (.reg none [i1 35 (.load 8 true (.t 10)),
 i0 (.store 8 (.t 8) (.t 35)),
 i1 9 (.mov false (.c (.int .i64 0)))] [8, 9])
 .ret))))
def res_parse_one : List IRes := [⟨8, false, some (8, true)⟩, ⟨9, true, none⟩]
theorem is_parse_one : fnIs Go.Proofs.Tryz.prog 182 36 res_parse_one ir_parse_one = true := by kernel_rfl
def parse_one (isM : lex_Token → Option Bool) (b : List UInt8) (at_ : Int) (last : Bool) : Option (lex_Token × Int) :=
  bnd (lex_Next b at_ last) fun r =>
  if r.2 != 0 then some (⟨0, 0, 0, ⟨0, 0, ⟨[]⟩, []⟩, ⟨[]⟩⟩, r.2)
  else if r.1.Kind == 0 then some (⟨0, 0, 0, ⟨0, 0, ⟨[]⟩, []⟩, ⟨[]⟩⟩, 10)
  else bnd (isM r.1) fun m =>
    if !m then some (⟨0, 0, 0, ⟨0, 0, ⟨[]⟩, []⟩, ⟨[]⟩⟩, 11) else some (r.1, 0)
theorem parse_one_fn {isM : lex_Token → Option Bool} {b : List UInt8} {at_ : Int} {last : Bool} {c : Nat} {caps : List AV} {s : Store} {Q : List AV → Store → Prop} (hok : (fnOK Go.Proofs.Tryz.prog c = true) = True) (hv : argsV (fun x => match x with | .c a => a | _ => .undef) (caps.map .c) = some caps)
    (hc : ∀ t r, isM t = some r → FE Go.Proofs.Tryz.prog c ([.agg [.int .i64 t.Kind, .int .i64 t.From, .int .i64 t.To, .int .i64 t.V.Kind, .int .i64 t.V.N, .str t.V.S.b, .sl false 4 t.V.L.length (flat t.V.L), .str t.S.b]] ++ caps) s [.bool r] s) : ok (parse_one isM b at_ last) (fun r => Q [.agg [.int .i64 r.1.Kind, .int .i64 r.1.From, .int .i64 r.1.To, .int .i64 r.1.V.Kind, .int .i64 r.1.V.N, .str r.1.V.S.b, .sl false 4 r.1.V.L.length (flat r.1.V.L), .str r.1.S.b], .int .i64 r.2] s) → FN Go.Proofs.Tryz.prog 182 [.sl false 1 b.length (flat b), .int .i64 at_, .bool last, .fn c [] caps] s Q := by
  intro hh
  refine FN.weak (FN.of (draw_ok mix) is_parse_one rfl (Nat.le_of_ble_eq_true rfl) ?_)
  rw [ir_parse_one, res_parse_one]
  revert hh
  rw [parse_one]
  simp -implicitDefEqProofs only [go_sem, start, startE, resVs, resV, resC, allV, retK, Nat.reduceBEq, Nat.reduceAdd, Nat.reduceMul, Nat.reduceLeDiff, Nat.reduceEqDiff, Nat.reduceBNe, Nat.ble_eq, UInt8.reduceToNat, UInt32.reduceToNat]
  refine call_to (fun _ h => lex_Next_fe h) (fun r => ?_)
  simp -implicitDefEqProofs only [go_sem, start, startE, resVs, resV, resC, allV, retK, Nat.reduceBEq, Nat.reduceAdd, Nat.reduceMul, Nat.reduceLeDiff, Nat.reduceEqDiff, Nat.reduceBNe, Nat.ble_eq, UInt8.reduceToNat, UInt32.reduceToNat]
  rintro ⟨h1, h2⟩
  refine ⟨fun hc1 => ⟨s, Sub.refl s, h1 hc1⟩, fun hc1 => ?_⟩
  have h2 := h2 hc1
  refine ⟨fun hc2 => ⟨s, Sub.refl s, h2.1 hc2⟩, fun hc2 => ?_⟩
  obtain ⟨m, hm, h3⟩ := h2.2 hc2
  simp -implicitDefEqProofs only [go_sem, start, startE, resVs, resV, resC, allV, retK, Nat.reduceBEq, Nat.reduceAdd, Nat.reduceMul, Nat.reduceLeDiff, Nat.reduceEqDiff, Nat.reduceBNe, Nat.ble_eq, UInt8.reduceToNat, UInt32.reduceToNat, hok]
  refine FE.app (hc r.1 m hm) ⟨rfl, ?_⟩
  cases m
  · have h4 := h3.1 rfl
    simp -implicitDefEqProofs only [go_sem, start, startE, resVs, resV, resC, allV, retK, Nat.reduceBEq, Nat.reduceAdd, Nat.reduceMul, Nat.reduceLeDiff, Nat.reduceEqDiff, Nat.reduceBNe, Nat.ble_eq, UInt8.reduceToNat, UInt32.reduceToNat]
    exact ⟨fun _ => ⟨s, Sub.refl s, h4⟩, fun h => absurd h (by simp)⟩
  · have h4 := h3.2 rfl
    simp -implicitDefEqProofs only [go_sem, start, startE, resVs, resV, resC, allV, retK, Nat.reduceBEq, Nat.reduceAdd, Nat.reduceMul, Nat.reduceLeDiff, Nat.reduceEqDiff, Nat.reduceBNe, Nat.ble_eq, UInt8.reduceToNat, UInt32.reduceToNat]
    exact ⟨fun h => absurd h (by simp), fun _ => ⟨s, Sub.refl s, h4⟩⟩
theorem parse_one_fe {isM : lex_Token → Option Bool} {b : List UInt8} {at_ : Int} {last : Bool} {c : Nat} {caps : List AV} {s : Store} {r : lex_Token × Int} (hok : (fnOK Go.Proofs.Tryz.prog c = true) = True) (hv : argsV (fun x => match x with | .c a => a | _ => .undef) (caps.map .c) = some caps)
    (hc : ∀ t r, isM t = some r → FE Go.Proofs.Tryz.prog c ([.agg [.int .i64 t.Kind, .int .i64 t.From, .int .i64 t.To, .int .i64 t.V.Kind, .int .i64 t.V.N, .str t.V.S.b, .sl false 4 t.V.L.length (flat t.V.L), .str t.S.b]] ++ caps) s [.bool r] s) (h : parse_one isM b at_ last = some r) : FE Go.Proofs.Tryz.prog 182 [.sl false 1 b.length (flat b), .int .i64 at_, .bool last, .fn c [] caps] s [.agg [.int .i64 r.1.Kind, .int .i64 r.1.From, .int .i64 r.1.To, .int .i64 r.1.V.Kind, .int .i64 r.1.V.N, .str r.1.V.S.b, .sl false 4 r.1.V.L.length (flat r.1.V.L), .str r.1.S.b], .int .i64 r.2] s :=
  parse_one_fn hok hv hc (⟨r, h, rfl, rfl⟩)
end Go.AB
end
