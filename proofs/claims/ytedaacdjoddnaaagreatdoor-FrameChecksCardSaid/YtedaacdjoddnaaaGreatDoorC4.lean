/- A part of the proof: Ab23, Ty1, Ty2, Ty3, Ab24, Row, Mix2, Ab25, Row2. -/
import Derived.Test.YtedaacdjoddnaaaGreatDoorC3
import Derived.ProofKit
import Derived.Test.YtedaacdjoddnaaaGreatDoorC1
import Derived.Test.YtedaacdjoddnaaaGreatDoorProg
import Derived.KernelRfl
set_option linter.unusedSimpArgs false
set_option linter.unusedVariables false
section
namespace Go.AB
open Go Go.RowKit
def noStore : Store := fun _ => none
section
variable {P : Program} {w w' : World}
end
end Go.AB
end

section
namespace Go.AB
open Go
theorem views_append (a b : List AV) : views (a ++ b) = views a ++ views b := by simp [views]
theorem views_flatten : ∀ l : List (List AV), (∀ x ∈ l, views x = x) → views l.flatten = l.flatten
 | [], _ => rfl
 | a :: l, h => by rw [List.flatten_cons, views_append, h a List.mem_cons_self, views_flatten l fun x hx => h x (List.mem_cons_of_mem _ hx)]
class Enc (α : Type) where
 w : Nat
 cells : α → List AV
 zero : α
 pos : 0 < w
 len : ∀ x, (cells x).length = w
 vw : ∀ x, views (cells x) = cells x
structure Str where
 b : List UInt8
 deriving DecidableEq, Inhabited
section
variable {α : Type} [Enc α]
def flat (l : List α) : List AV := (l.map Enc.cells).flatten
def ix (l : List α) (i : Int) : α := l.getD i.toNat Enc.zero
theorem flat_len : ∀ l : List α, (flat l).length = l.length * Enc.w α
 | [] => by simp [flat]
 | a :: l => by
  have := flat_len l
  simp only [flat, List.map_cons, List.flatten_cons, List.length_append, Enc.len] at this ⊢
  rw [this, List.length_cons, Nat.add_mul, Nat.one_mul, Nat.add_comm]
@[go_sem] theorem flat_nil : flat ([] : List α) = [] := rfl
@[go_sem] theorem flat_cons (a : α) (l : List α) : flat (a :: l) = Enc.cells a ++ flat l := rfl
@[go_sem] theorem flat_append (a b : List α) : flat (a ++ b) = flat a ++ flat b := by simp [flat]
@[go_sem] theorem flat_views (l : List α) : views (flat l) = flat l := views_flatten _ fun x hx => by
 obtain ⟨y, _, rfl⟩ := List.mem_map.1 hx
 exact Enc.vw y
theorem flat_drop (l : List α) : ∀ k, (flat l).drop (k * Enc.w α) = flat (l.drop k) := by
 induction l with
 | nil => intro k; simp [flat]
 | cons a l ih => intro k; cases k with
  | zero => simp
  | succ k =>
   rw [flat_cons, List.drop_succ_cons, ← ih k, Nat.succ_mul, Nat.add_comm, ← List.drop_drop]
   congr 1
   rw [← Enc.len a, List.drop_left]
theorem flat_take (l : List α) : ∀ k, (flat l).take (k * Enc.w α) = flat (l.take k) := by
 induction l with
 | nil => intro k; simp [flat]
 | cons a l ih => intro k; cases k with
  | zero => simp [flat_nil]
  | succ k =>
   rw [flat_cons, List.take_succ_cons, flat_cons, ← ih k, Nat.succ_mul, Nat.add_comm, List.take_append]
   rw [Enc.len a, List.take_of_length_le (by rw [Enc.len]; omega)]
   congr 2
   omega
theorem flat_sub (l : List α) (n lo m : Nat) (hn : n = Enc.w α) : AB.sub (flat l) (lo * n) (m * n) = flat ((l.drop lo).take m) := by
 subst hn
 unfold AB.sub
 rw [flat_drop, flat_take]
theorem flat_pad (z : List AV) (n : Nat) (l : List α) (i : Int) (hz : z = Enc.cells (Enc.zero : α)) (hn : n = Enc.w α) : pad z (views (AB.sub (flat l) (i.toNat * n) n)) = Enc.cells (ix l i) := by
  subst hn
  have h1 : AB.sub (flat l) (i.toNat * Enc.w α) (Enc.w α) = flat ((l.drop i.toNat).take 1) := by
    have := flat_sub l (Enc.w α) i.toNat 1 rfl
    rwa [Nat.one_mul] at this
  rw [h1, flat_views]
  unfold pad ix
  rcases Nat.lt_or_ge i.toNat l.length with hlt | hge
  · rw [List.drop_eq_getElem_cons hlt, List.take_succ_cons, List.take_zero, flat_cons, flat_nil, List.append_nil, hz, Enc.len, Enc.len, beq_self_eq_true]
    simp [List.getD, List.getElem?_eq_getElem hlt]
  · rw [List.drop_eq_nil_of_le hge, List.take_nil, flat_nil, hz, Enc.len]
    have : (([] : List AV).length == Enc.w α) = false := by
      have := Enc.pos (α := α)
      simp; omega
    rw [this]
    simp [List.getD, List.getElem?_eq_none hge]
def part (l : List α) (lo hi : Int) : List α := (l.drop lo.toNat).take (hi - lo).toNat
theorem flat_part (n : Nat) (l : List α) (lo hi : Int) (hn : n = Enc.w α) : AB.sub (flat l) (lo.toNat * n) ((hi - lo).toNat * n) = flat (part l lo hi) := flat_sub l n _ _ hn
theorem flat_div (n : Nat) (l : List α) (hn : n = Enc.w α) : (flat l).length / n = l.length := by
 subst hn
 rw [flat_len]; exact Nat.mul_div_cancel _ Enc.pos
end
instance : Enc Bool := ⟨1, fun b => [.bool b], false, Nat.one_pos, fun _ => rfl, fun _ => rfl⟩
instance : Enc Int := ⟨1, fun n => [.int .i64 n], 0, Nat.one_pos, fun _ => rfl, fun _ => rfl⟩
instance : Enc UInt8 := ⟨1, fun n => [.int .u8 n.toNat], 0, Nat.one_pos, fun _ => rfl, fun _ => rfl⟩
instance : Enc UInt32 := ⟨1, fun n => [.int .u32 n.toNat], 0, Nat.one_pos, fun _ => rfl, fun _ => rfl⟩
instance : Enc UInt64 := ⟨1, fun n => [.int .u64 n.toNat], 0, Nat.one_pos, fun _ => rfl, fun _ => rfl⟩
instance : Enc Str := ⟨1, fun s => [.str s.b], ⟨[]⟩, Nat.one_pos, fun _ => rfl, fun _ => rfl⟩
instance {α : Type} [Enc α] : Enc (List α) := ⟨1, fun l => [.sl false (Enc.w α) l.length (flat l)], [], Nat.one_pos, fun _ => rfl, fun _ => rfl⟩
@[go_sem] theorem cells_int (x : Int) : Enc.cells x = [.int .i64 x] := rfl
@[go_sem] theorem cells_u8 (x : UInt8) : Enc.cells x = [.int .u8 x.toNat] := rfl
@[go_sem] theorem cells_list {α : Type} [Enc α] (x : List α) : Enc.cells x = [.sl false (Enc.w α) x.length (flat x)] := rfl
@[go_sem] theorem w_u8 : Enc.w UInt8 = 1 := rfl
@[go_sem] theorem pad_int (l : List Int) (i : Int) : pad [.int .i64 0] (views (AB.sub (flat l) (i.toNat * 1) 1)) = [.int .i64 (ix l i)] := flat_pad _ 1 l i rfl rfl
@[go_sem] theorem pad_u8 (l : List UInt8) (i : Int) : pad [.int .u8 0] (views (AB.sub (flat l) (i.toNat * 1) 1)) = [.int .u8 (ix l i).toNat] := flat_pad _ 1 l i rfl rfl
@[go_sem] theorem pad_list {α : Type} [Enc α] (l : List (List α)) (i : Int) (n : Nat) (hn : n = Enc.w α) : pad [.sl false n 0 []] (views (AB.sub (flat l) (i.toNat * 1) 1)) = [.sl false (Enc.w α) (ix l i).length (flat (ix l i))] := by
 subst hn
 exact flat_pad _ 1 l i rfl rfl
end Go.AB
end

section
namespace Go.AB
open Go
def ok {α : Type} (o : Option α) (K : α → Prop) : Prop := ∃ a, o = some a ∧ K a
def need {α : Type} (c : Prop) [Decidable c] (o : Option α) : Option α := if c then o else none
def whenB {α : Type} (g : Bool) (z : α) (o : Option α) : Option α := bif g then o else some z
def bnd {α β : Type} (o : Option α) (f : α → Option β) : Option β := match o with
 | some a => f a
 | none => none
def iterN {S O : Type} (body : S → Option (S ⊕ O)) : Nat → S → Option O
 | 0, _ => none
 | n + 1, s => match body s with
  | none => none
  | some (.inl t) => iterN body n t
  | some (.inr o) => some o
def iter {S O : Type} (body : S → Option (S ⊕ O)) (s : S) : Option O := iterN body 18446744073709551616 s
def caseS {A B C : Type} (f : A → C) (g : B → C) : A ⊕ B → C
 | .inl a => f a
 | .inr b => g b
section
variable {α β : Type} (K : α → Prop)
@[go_sem] theorem ok_some (a : α) : ok (some a) K = K a := by simp [ok]
@[go_sem] theorem ok_none : ok none K = False := by simp [ok]
@[go_sem] theorem ok_need (c : Prop) [Decidable c] (o : Option α) : ok (need c o) K = (c ∧ ok o K) := by
 unfold need
 by_cases h : c <;> simp [h, ok]
@[go_sem] theorem ok_bnd (o : Option β) (f : β → Option α) : ok (bnd o f) K = ok o (fun b => ok (f b) K) := by cases o <;> simp [bnd, ok]
@[go_sem] theorem ok_ite (c : Bool) (a b : Option α) : ok (if c = true then a else b) K = ((c = true → ok a K) ∧ (c = false → ok b K)) := by cases c <;> simp
theorem ok_when (g : Bool) (z : α) (o : Option α) : ok (whenB g z o) K = ∃ a, (g = true → o = some a) ∧ (g = false → a = z) ∧ K a := by
 cases g <;> simp [whenB, ok]
@[go_sem] theorem caseS_l {A B C : Type} (f : A → C) (g : B → C) (a : A) : caseS f g (.inl a) = f a := rfl
@[go_sem] theorem caseS_r {A B C : Type} (f : A → C) (g : B → C) (b : B) : caseS f g (.inr b) = g b := rfl
end
theorem and_to {A B C D : Prop} (h : A → C) (k : B → D) : A ∧ B → C ∧ D := fun x => ⟨h x.1, k x.2⟩
theorem im_to {p A B : Prop} (h : A → B) : (p → A) → p → B := fun x y => h (x y)
theorem tt_to {A : Prop} : A → A := fun h => h
variable {P : Program}
theorem call_to {β : Type} {o : Option β} {kf : β → Prop} {f : FuncId} {as1 : List AV} {s : Store} {enc : β → List AV} {Q : List AV → Store → Prop}
  (hf : ∀ r, o = some r → FE P f as1 s (enc r) s) (hk : ∀ r, kf r → Q (enc r) s) : ok o kf → FN P f as1 s Q := fun ⟨r, h, k⟩ => FE.app (hf r h) (hk r k)
theorem call_to_q {β : Type} {o : Option β} {kf : β → Prop} {f : FuncId} {as1 : List AV} {s : Store} {enc : β → List AV} {Q : List AV → Prop}
  (hf : ∀ r, o = some r → FE P f as1 s (enc r) s) (hr : ∀ r, rsOK (enc r) = true) (hk : ∀ r, kf r → Q (enc r)) : ok o kf → ∃ rs, rsOK rs = true ∧ FE P f as1 s rs s ∧ Q rs :=
 fun ⟨r, h, k⟩ => ⟨enc r, hr r, hf r h, hk r k⟩
theorem call_to_g {β : Type} {g : Bool} {z : β} {o : Option β} {kf : β → Prop} {f : FuncId} {as1 : Option (List AV)} {as2 : List AV} {s : Store} {enc : β → List AV} {Q : List AV → Prop}
  (ha : as1 = some as2) (hf : ∀ r, o = some r → FE P f as2 s (enc r) s) (hr : ∀ r, rsOK (enc r) = true) (hk : ∀ r, kf r → Q (enc r)) :
  ok (whenB g z o) kf → ∃ rs, rsOK rs = true ∧ (g = true → ∃ as2, as1 = some as2 ∧ FE P f as2 s rs s) ∧ Q rs := fun h => by
 rw [ok_when] at h
 obtain ⟨r, h1, _, k⟩ := h
 exact ⟨enc r, hr r, fun hg => ⟨as2, ha, hf r (h1 hg)⟩, hk r k⟩
def okj {α : Type} (o : Option α) (K : α → Prop) : Prop := ok o K
def jn {α β : Type} (o : Option α) (f : α → Option β) : Option β := bnd o f
@[go_sem] theorem ok_jn {α β : Type} (K : α → Prop) (o : Option β) (f : β → Option α) : ok (jn o f) K = okj o (fun b => ok (f b) K) := ok_bnd ..
theorem join_to {X : Type} {M : Option X} {kf : X → Prop} {live : List (Nat × Bool)} {a b : IC} {Q : Exit → St → Prop} {σ : St} (enc : X → St)
  (ha : ∀ J : St → Prop, ok M (fun x => J (enc x)) → cwp P a (joinK live J Q) σ) (hb : ∀ x, kf x → cwp P b Q (enc x)) : okj M kf → cwp P (.join live a b) Q σ := fun ⟨x, h, k⟩ =>
 ⟨fun τ => ∃ x, τ = enc x ∧ kf x, ha _ ⟨x, h, x, rfl, k⟩, fun _ ⟨x, e, k⟩ => e ▸ hb x k⟩
theorem iterN_zero {S O : Type} {body : S → Option (S ⊕ O)} {s : S} {K : O → Prop} : ¬ ok (iterN body 0 s) K := fun ⟨_, h, _⟩ => by cases h
theorem iterN_succ {S O : Type} {body : S → Option (S ⊕ O)} {n : Nat} {s : S} {K : O → Prop} (h : ok (iterN body (n + 1) s) K) : ok (body s) (caseS (fun t => ok (iterN body n t) K) K) := by
 obtain ⟨o, h, k⟩ := h
 unfold iterN at h
 cases hb : body s with
 | none => rw [hb] at h; cases h
 | some x =>
  rw [hb] at h
  cases x with
  | inl t => exact ⟨_, rfl, ⟨o, h, k⟩⟩
  | inr o' => cases h; exact ⟨_, rfl, k⟩
theorem loopK_join {live : List (Nat × Bool)} {I : St → Prop} {μ : St → Nat} {m : Nat} {Q : Exit → St → Prop} : loopK live I μ m Q = joinK live (fun ρ => I ρ ∧ μ ρ < m) Q := by
 funext x ρ; cases x <;> rfl
theorem iter_to {S O : Type} {body : S → Option (S ⊕ O)} {s0 : S} {kf : O → Prop} {live : List (Nat × Bool)} {b : IC} {Q : Exit → St → Prop} {σ : St} (enc : S → St)
    (h0 : σ.keepV live = enc s0)
    (hb : ∀ (J : St → Prop) (s : S), ok (body s) (caseS (fun t => J (enc t)) kf) → cwp P b (joinK live J Q) (enc s)) : ok (iter body s0) kf → cwp P (.loop live b) Q σ := by
  intro h
  have hmin : ∀ τ, (∃ m s, τ = enc s ∧ ok (iterN body m s) kf) → ∃ m, (∃ s, τ = enc s ∧ ok (iterN body m s) kf) ∧ ∀ k, k < m → ¬ ∃ s, τ = enc s ∧ ok (iterN body k s) kf := by
    rintro τ ⟨m, s, h⟩
    induction m using Nat.strongRecOn generalizing s with
    | _ m ih =>
      by_cases hk : ∃ k, k < m ∧ ∃ s, τ = enc s ∧ ok (iterN body k s) kf
      · obtain ⟨k, hk, s', h'⟩ := hk
        exact ih k hk s' h'
      · exact ⟨m, ⟨s, h⟩, fun k hk' hs => hk ⟨k, hk', hs⟩⟩
  have hμ : ∃ μ : St → Nat, ∀ τ, (∃ m s, τ = enc s ∧ ok (iterN body m s) kf) → (∃ s, τ = enc s ∧ ok (iterN body (μ τ) s) kf) ∧ ∀ k, k < μ τ → ¬ ∃ s, τ = enc s ∧ ok (iterN body k s) kf := by
    exact ⟨fun τ => Classical.epsilon fun m => (∃ s, τ = enc s ∧ ok (iterN body m s) kf) ∧ ∀ k, k < m → ¬ ∃ s, τ = enc s ∧ ok (iterN body k s) kf, fun τ hτ => Classical.epsilon_spec (hmin τ hτ)⟩
  obtain ⟨μ, hμ⟩ := hμ
  refine ⟨fun τ => ∃ m s, τ = enc s ∧ ok (iterN body m s) kf, μ, ?_, ?_⟩
  · exact ⟨_, s0, h0, h⟩
  · intro τ hτ
    obtain ⟨⟨s, e, hs⟩, _⟩ := hμ τ hτ
    generalize hm : μ τ = m at hs
    cases m with
    | zero => exact (iterN_zero hs).elim
    | succ m =>
      subst e
      rw [loopK_join]
      obtain ⟨x, hx, k⟩ := iterN_succ hs
      refine hb _ s ⟨x, hx, ?_⟩
      cases x with
      | inr o => exact k
      | inl t =>
        refine ⟨⟨m, t, rfl, k⟩, ?_⟩
        have h2 := (hμ (enc t) ⟨m, t, rfl, k⟩).2
        rcases Nat.lt_or_ge m (μ (enc t)) with hlt | hge
        · exact (h2 m hlt ⟨t, rfl, k⟩).elim
        · omega
theorem jump_to {S O : Type} {body : S → Option (S ⊕ O)} {s0 : S} {kf : O → Prop} {live : List (Nat × Bool)} {l : Nat} {r : IC} {Q : Exit → St → Prop} {σ : St} (enc : S → St)
    (h0 : σ = enc s0)
    (hb : ∀ (J : St → Prop) (s : S), ok (body s) (caseS (fun t => J (enc t)) kf) → cwp P r (jmpK l live J Q) (enc s)) : ok (iter body s0) kf → jlp P l live r Q σ := by
  intro h
  have hmin : ∀ τ, (∃ m s, τ = enc s ∧ ok (iterN body m s) kf) → ∃ m, (∃ s, τ = enc s ∧ ok (iterN body m s) kf) ∧ ∀ k, k < m → ¬ ∃ s, τ = enc s ∧ ok (iterN body k s) kf := by
    rintro τ ⟨m, s, h⟩
    induction m using Nat.strongRecOn generalizing s with
    | _ m ih =>
      by_cases hk : ∃ k, k < m ∧ ∃ s, τ = enc s ∧ ok (iterN body k s) kf
      · obtain ⟨k, hk, s', h'⟩ := hk
        exact ih k hk s' h'
      · exact ⟨m, ⟨s, h⟩, fun k hk' hs => hk ⟨k, hk', hs⟩⟩
  have hμ : ∃ μ : St → Nat, ∀ τ, (∃ m s, τ = enc s ∧ ok (iterN body m s) kf) → (∃ s, τ = enc s ∧ ok (iterN body (μ τ) s) kf) ∧ ∀ k, k < μ τ → ¬ ∃ s, τ = enc s ∧ ok (iterN body k s) kf := by
    exact ⟨fun τ => Classical.epsilon fun m => (∃ s, τ = enc s ∧ ok (iterN body m s) kf) ∧ ∀ k, k < m → ¬ ∃ s, τ = enc s ∧ ok (iterN body k s) kf, fun τ hτ => Classical.epsilon_spec (hmin τ hτ)⟩
  obtain ⟨μ, hμ⟩ := hμ
  refine ⟨fun τ => ∃ m s, τ = enc s ∧ ok (iterN body m s) kf, μ, ?_, ?_⟩
  · exact ⟨_, s0, h0, h⟩
  · intro τ hτ
    obtain ⟨⟨s, e, hs⟩, _⟩ := hμ τ hτ
    generalize hm : μ τ = m at hs
    cases m with
    | zero => exact (iterN_zero hs).elim
    | succ m =>
      subst e
      obtain ⟨x, hx, k⟩ := iterN_succ hs
      refine hb _ s ⟨x, hx, ?_⟩
      cases x with
      | inr o => exact k
      | inl t =>
        refine ⟨⟨m, t, rfl, k⟩, ?_⟩
        have h2 := (hμ (enc t) ⟨m, t, rfl, k⟩).2
        rcases Nat.lt_or_ge m (μ (enc t)) with hlt | hge
        · exact (h2 m hlt ⟨t, rfl, k⟩).elim
        · omega
def bndS {X Y α : Type} (M : Option (X ⊕ Y)) (F : X → Option α) (G : Y → Option α) : Option α := match M with
 | some (.inl x) => F x
 | some (.inr y) => G y
 | none => none
@[go_sem] theorem ok_bndS {X Y α : Type} (M : Option (X ⊕ Y)) (F : X → Option α) (G : Y → Option α) (K : α → Prop) : ok (bndS M F G) K = ok M (caseS (fun x => ok (F x) K) (fun y => ok (G y) K)) := by
 cases M with
 | none => simp [bndS, ok]
 | some x => cases x <;> simp [bndS, ok, caseS]
def jnS {X Y α : Type} (M : Option (X ⊕ Y)) (F : X → Option α) (G : Y → Option α) : Option α := bndS M F G
@[go_sem] theorem ok_jnS {X Y α : Type} (M : Option (X ⊕ Y)) (F : X → Option α) (G : Y → Option α) (K : α → Prop) : ok (jnS M F G) K = okj M (caseS (fun x => ok (F x) K) (fun y => ok (G y) K)) := ok_bndS ..
theorem join_toS {X Y : Type} {M : Option (X ⊕ Y)} {kf : X → Prop} {kr : Y → Prop} {live : List (Nat × Bool)} {a b : IC} {Q : Exit → St → Prop} {σ : St} (enc : X → St)
  (ha : ∀ J : St → Prop, ok M (caseS (fun x => J (enc x)) kr) → cwp P a (joinK live J Q) σ) (hb : ∀ x, kf x → cwp P b Q (enc x)) : okj M (caseS kf kr) → cwp P (.join live a b) Q σ := fun ⟨x, h, k⟩ => by
 refine ⟨fun τ => ∃ x, τ = enc x ∧ kf x, ha _ ⟨x, h, ?_⟩, fun _ ⟨x, e, k⟩ => e ▸ hb x k⟩
 cases x with
 | inl x => exact ⟨x, rfl, k⟩
 | inr y => exact k
@[go_sem] theorem byteOf_u8 (c : UInt8) : byteOf (.int .u8 c.toNat) = some c := by
 unfold byteOf
 have := c.toNat_lt
 simp only [Int.natCast_nonneg, true_and, Int.toNat_natCast]
 rw [if_pos (by omega)]
 simp
@[go_sem] theorem bytesOf_flat : ∀ l : List UInt8, bytesOf (flat l) = some l
 | [] => rfl
 | c :: l => by
  rw [flat_cons]
  show consO (byteOf (.int .u8 c.toNat)) (bytesOf (flat l)) = _
  rw [byteOf_u8, bytesOf_flat l]; rfl
@[go_sem] theorem map_flat (l : List UInt8) : (l.map fun c => AV.int .u8 c.toNat) = flat l := by
 induction l with
 | nil => rfl
 | cons a l ih => rw [List.map_cons, ih]; rfl
def w64 (n : Int) : Int := IntKind.i64.wrap n
def u8w (n : Int) : UInt8 := UInt8.ofNat (IntKind.u8.wrap n).toNat
def u64w (n : Int) : UInt64 := UInt64.ofNat (IntKind.u64.wrap n).toNat
@[go_sem] theorem wrap_w64 (n : Int) : wrapI .i64 n = w64 n := rfl
theorem wrapU (k : IntKind) (n : Int) (hk : k.signed = false) : k.wrap n = n % (2 ^ k.bits : Int) := by
 unfold IntKind.wrap
 simp [hk]
@[go_sem] theorem wrap_u8 (n : Int) : wrapI .u8 n = (u8w n).toNat := by
 show IntKind.u8.wrap n = ((UInt8.ofNat (IntKind.u8.wrap n).toNat).toNat : Int)
 rw [wrapU _ _ rfl, UInt8.toNat_ofNat']
 have : (2 ^ IntKind.u8.bits : Int) = 256 := by decide
 rw [this]
 omega
@[go_sem] theorem wrap_u64 (n : Int) : wrapI .u64 n = (u64w n).toNat := by
 show IntKind.u64.wrap n = ((UInt64.ofNat (IntKind.u64.wrap n).toNat).toNat : Int)
 rw [wrapU _ _ rfl, UInt64.toNat_ofNat']
 have : (2 ^ IntKind.u64.bits : Int) = 18446744073709551616 := by decide
 rw [this]
 omega
@[go_sem] theorem getD_ix (l : List UInt8) (k : Int) : l.getD k.toNat 0 = ix l k := rfl
@[go_sem] theorem part_of (l : List UInt8) (lo hi : Int) : (l.drop lo.toNat).take (hi - lo).toNat = part l lo hi := rfl
attribute [go_sem] List.length_append true_or or_true eq_self_iff_true imp_self Bool.cond_true_left Bool.cond_false_right and_self and_true
def mv (d x : Nat) : IOper := ⟨some d, .mov false (.t x), none⟩
def mt (d x : Nat) : IOper := ⟨some d, .mov true (.t x), none⟩
def mvg (d x t : Nat) (w : Bool) : IOper := ⟨some d, .mov false (.t x), some (t, w)⟩
def mtg (d x t : Nat) (w : Bool) : IOper := ⟨some d, .mov true (.t x), some (t, w)⟩
def i1 (d : Nat) (o : IOp) : IOper := ⟨some d, o, none⟩
def i1g (d t : Nat) (w : Bool) (o : IOp) : IOper := ⟨some d, o, some (t, w)⟩
def i0 (o : IOp) : IOper := ⟨none, o, none⟩
def i0g (t : Nat) (w : Bool) (o : IOp) : IOper := ⟨none, o, some (t, w)⟩
attribute [go_sem] mv mt mvg mtg i1 i1g i0 i0g
@[go_sem] theorem sub_cons (a : AV) (l : List AV) (off n : Nat) : AB.sub (a :: l) off n = ((a :: l).drop off).take n := rfl
attribute [go_sem] flat_part flat_div
@[go_sem] theorem lpReg_when (σ : St) (b : Bool) (a : AV) (d : Option Nat) : lpReg σ (.when b a) d = lpReg σ a d := by
 rw [lpReg]
end Go.AB
end

section
namespace Go.AB
open Go
def SubS (t s : Store) : Prop := ∀ b o, t b = some o → s b = some o
theorem SubS.refl (s : Store) : SubS s s := fun _ _ h => h
theorem SubS.trans {a b c : Store} (h : SubS a b) (k : SubS b c) : SubS a c := fun x o hx => k x o (h x o hx)
theorem SubS.set {t s : Store} {b : Nat} {o : SO} (h : SubS t s) (hb : t b = none) : SubS t (s.set b o) := fun c p hc => by
  unfold Store.set
  by_cases hcb : c = b
  · subst hcb; rw [hb] at hc; cases hc
  · rw [if_neg hcb]; exact h c p hc
theorem SubS.mono {t s : Store} {b : Nat} {o : SO} (h : SubS t s) : SubS (t.set b o) (s.set b o) := fun c p hc => by
  unfold Store.set at hc ⊢
  by_cases hcb : c = b
  · rw [if_pos hcb] at hc ⊢; exact hc
  · rw [if_neg hcb] at hc ⊢; exact h c p hc
variable {P : Program}
theorem FN.forget {f : FuncId} {args : List AV} {s : Store} {Q : List AV → Store → Prop} (h : FN P f args s fun rs t => ∃ t', SubS t' t ∧ Q rs t') : FN P f args s Q := by
 intro G w vs h1 h2 h3 h4
 refine (h G w vs h1 h2 h3 h4).mono fun e w' ⟨v, rs, s', G', a1, ⟨t', ht, hq⟩, a3, a4, a5⟩ => ⟨v, rs, t', G', a1, hq, a3, fun b o hb => a4 b o (ht b o hb), a5⟩
theorem set_same (s : Store) (b : Nat) (o : SO) : (s.set b o) b = some o := by simp [Store.set]
theorem set_ne {s : Store} {b c : Nat} {o : SO} (h : c ≠ b) : (s.set b o) c = s c := by simp [Store.set, h]
theorem set_set (s : Store) (b : Nat) (o p : SO) : (s.set b o).set b p = s.set b p := by
 funext c; unfold Store.set; by_cases h : c = b <;> simp [h]
theorem set_comm {a b : Nat} (h : a ≠ b) {s : Store} {o p : SO} : (s.set b p).set a o = (s.set a o).set b p := by
  funext c; unfold Store.set
  by_cases ha : c = a
  · subst ha; simp [h]
  · simp [ha]
theorem set_eq {s : Store} {b : Nat} {o : SO} (h : s b = some o) : s = s.set b o := by
  funext c; unfold Store.set
  by_cases hc : c = b
  · subst hc; simp [h]
  · simp [hc]
theorem set_eq' {s : Store} {b : Nat} {o : SO} (h : s b = some o) : s.set b o = s := (set_eq h).symm
theorem set_none (s : Store) (b c : Nat) (o : SO) : ((s.set b o) c = none) = (c ≠ b ∧ s c = none) := by
 unfold Store.set
 by_cases hc : c = b <;> simp [hc]
attribute [go_sem] set_same set_set
theorem ok_mono {α : Type} {o : Option α} {K K' : α → Prop} (h : ok o K) (hk : ∀ r, K r → K' r) : ok o K' := h.imp fun r ⟨h1, h2⟩ => ⟨h1, hk r h2⟩
section
variable (Q : Exit → St → Prop) (σ τ : St)
end
def aindexN (sz len n : Nat) (x : IX) : AV → PR
 | .lp d o => .prt (n + 1 ≤ len) (.lp d (o + n * sz))
 | .sp cs => bif decide (len * sz ≤ cs.length) then .prt (n + 1 ≤ len) (.sp (cs.drop (n * sz))) else .no
 | .ref b o => .prt (n + 1 ≤ len) (.ref b (o + n * sz))
 | .loc _ => locA (n + 1 ≤ len) (n * sz) x
 | _ => .no
attribute [go_sem] aindexN.eq_1 aindexN.eq_2 aindexN.eq_3 aindexN.eq_4
@[go_sem] theorem setAt_cons (a : AV) (l : List AV) (off : Nat) (news : List AV) : setAt (a :: l) off news = (a :: l).take off ++ news ++ (a :: l).drop (off + news.length) := rfl
@[go_sem] theorem pad_cons (z : List AV) (a : AV) (l : List AV) : pad z (a :: l) = bif (a :: l).length == z.length then a :: l else z := rfl
@[go_sem] theorem rep_flat {α : Type} [Enc α] (n : Nat) (z : α) : (List.replicate n (Enc.cells z)).flatten = flat (List.replicate n z) := by simp [flat]
section
variable {d d' : Option Nat} {K : St → Prop} {σ : St} {b off : Nat} {news old : List AV}
@[go_sem] theorem stK_wrS : stK d K (wrS σ b (wrCells off news old)) = (off + news.length ≤ old.length ∧ K (({ σ with s := σ.s.set b (.cells (setAt old off news)) } : St).put d (.tup []))) := by
  unfold wrCells
  by_cases h : off + news.length ≤ old.length
  · simp [h, wrS, stK]
  · simp [h, wrS, stK]
@[go_sem] theorem stK_wrL {i : Nat} : stK d K (wrL σ i (wrCells off news old)) = (off + news.length ≤ old.length ∧ K ((σ.put (some i) (.loc (setAt old off news))).put d (.tup []))) := by
  unfold wrCells
  by_cases h : off + news.length ≤ old.length
  · simp [h, wrL, stK]
  · simp [h, wrL, stK]
end
@[go_sem] theorem natCast_lit (n : Nat) : (((no_index (OfNat.ofNat n)) : Nat) : Int) = OfNat.ofNat n := rfl
def encM {κ ν : Type} (ek : κ → AV) (ev : ν → AV) (m : List (κ × ν)) : List (AV × AV) := m.map fun p => (ek p.1, ev p.2)
section
variable {κ ν : Type} [BEq κ] {ek : κ → AV} {ev : ν → AV}
end
attribute [go_sem] mapUpdW.eq_1
theorem encM_nil {κ ν : Type} (ek : κ → AV) (ev : ν → AV) : encM ek ev [] = [] := rfl
@[go_sem] theorem rep_u8 (n : Nat) : (List.replicate n [AV.int .u8 0]).flatten = flat (List.replicate n (0 : UInt8)) := rep_flat n (0 : UInt8)
end Go.AB
end

section
namespace Go.AB
open Go
def GhStep (G G2 : Gh) : Prop := ∀ b, G.R b ≤ G2.R b ∧ (G.O b ≠ .sh → G2.O b = G.O b ∧ G2.R b = G.R b)
theorem FN.conv {P : Program} {f : FuncId} {args : List AV} {s : Store} {Q Q' : List AV → Store → Prop} (h : FN P f args s Q)
    (k : ∀ rs s', Q rs s' → ∀ G w v, GoodW G w → StoreR G w s' → ResR G w rs v → ∃ rs2 s2 G2, Q' rs2 s2 ∧ GhStep G G2 ∧ GoodW G2 w ∧ StoreR G2 w s2 ∧ ResR G2 w rs2 v) : FN P f args s Q' := by
  intro G w vs h1 h2 h3 h4
  refine (h G w vs h1 h2 h3 h4).mono fun e w' ⟨v, rs, s', G', a, hq, hg, hs, hr, hp⟩ => ?_
  obtain ⟨rs2, s2, G2, k1, k2, k3, k4, k5⟩ := k rs s' hq G' w' v hg hs hr
  refine ⟨v, rs2, s2, G2, a, k1, k3, k4, k5, hp.os, hp.tape, hp.output, hp.drawn, hp.size, fun b hb => Nat.le_trans (hp.mono b hb) (k2 b).1, hp.stable, hp.frame, fun b hb ho => ?_, fun b hb ho => ?_⟩
  · obtain ⟨q1, q2⟩ := hp.frameO b hb ho
    obtain ⟨q3, q4⟩ := (k2 b).2 (by rw [q1]; simp)
    exact ⟨q3.trans q1, q4.trans q2⟩
  · obtain ⟨q1, q2⟩ := hp.noneO b hb ho
    obtain ⟨q3, q4⟩ := (k2 b).2 (by rw [q1]; simp)
    exact ⟨q3.trans q1, q4.trans q2⟩
section
variable {G : Gh} {w : World} {s : Store} {b : Nat}
theorem step_at (h : StoreR G w s) (hg : GoodW G w) {cs : List AV} (hs : s b = some (.cells cs)) (r : Nat) :
    GhStep G (G.upd b (.res 0) r) ∧ GoodW (G.upd b (.res 0) r) w ∧ StoreR (G.upd b (.res 0) r) w (s.del b) ∧ (∀ a v, VR w G.R a v → VR w (G.upd b (.res 0) r).R a v) := by
  obtain ⟨q2, q3, c, t, q4, q5, q6⟩ := h b _ hs
  have hR : ∀ b', G.R b' ≤ (G.upd b (.res 0) r).R b' := fun b' => by
    by_cases hb : b' = b
    · subst hb; rw [q3]; exact Nat.zero_le _
    · simp [hb]
  have hv : ∀ a v, VR w G.R a v → VR w (G.upd b (.res 0) r).R a v := fun a v h => h.mono hR fun _ _ _ => rfl
  have same : ∀ b', b' ≠ b → (G.upd b (.res 0) r).O b' = G.O b' ∧ (G.upd b (.res 0) r).R b' = G.R b' := fun b' hb' => ⟨by simp [hb'], by simp [hb']⟩
  have hlt : b < w.heap.size := hg.lt (by rw [q2]; simp)
  refine ⟨fun b' => ⟨hR b', fun hb' => same b' fun e => by subst e; exact hb' q2⟩, ⟨fun b' hb' => ?_, fun b' hb' => ?_⟩, ?_, hv⟩
  · have : b' ≠ b := by omega
    rw [(same b' this).1, hg.newO b' hb']
  · have : b' ≠ b := by omega
    rw [(same b' this).2, hg.newR b' hb']
  · intro b' o hb'
    unfold Store.del at hb'
    split at hb'
    · cases hb'
    · rename_i hne
      obtain ⟨r1, r2, r3⟩ := h b' o hb'
      refine ⟨(same b' hne).1.trans r1, (same b' hne).2.trans r2, ?_⟩
      cases o with
      | cells cs' =>
        obtain ⟨c', t', r4, r5, r6⟩ := r3
        exact ⟨c', t', r4, r5.mono hv (fun b'' j hb'' => by
          have : b'' ≠ b := fun e => by subst e; rw [q2] at hb''; cases hb''
          exact ⟨(same b'' this).1.trans hb'', (same b'' this).2, rfl⟩), r6⟩
      | map es =>
        obtain ⟨ents, clock, r4, r5, r6⟩ := r3
        exact ⟨ents, clock, r4, r5, fun j x y hx hy => ⟨hv _ _ (r6 j x y hx hy).1, hv _ _ (r6 j x y hx hy).2⟩⟩
theorem pack_us (h : StoreR G w s) (hg : GoodW G w) {n cap sz : Nat} {cs sp : List AV} {v : Value} (hs : s b = some (.cells (cs ++ sp))) (hc : 0 < cap) (hn : n ≤ cap) (hl : (cs ++ sp).length = cap * sz) (hl2 : cs.length = n * sz) (hvw : views (cs ++ sp) = cs ++ sp)
  (hr : ResR G w [.arr b 0 n cap] v) : ∃ G2, GhStep G G2 ∧ GoodW G2 w ∧ StoreR G2 w (s.del b) ∧ ResR G2 w [.us sz n cs] v := by
 obtain ⟨k1, k2, k3, k4⟩ := step_at h hg hs 0
 obtain ⟨q2, q3, c, t, q4, q5, q6⟩ := h b _ hs
 refine ⟨_, k1, k2, k3, .inr ⟨b, cap, c, t, sp, hc, hn, VR.inv_arr hr.1 hc, by simp, by simp, q4, by rw [q5.1, hl], hl2, hl, fun j x u hx hu => k4 _ _ (q5.2 j x u hx hu).1, q6.flat hvw, hvw⟩⟩
theorem pack_us0 {sz : Nat} {v : Value} (hr : ResR G w [.arr b 0 0 0] v) : ResR G w [.us sz 0 []] v := by
  rcases VR.inv_arr' hr.1 with e | ⟨_, _, e⟩
  · exact .inl ⟨rfl, rfl, .inr ⟨b, 0, e⟩⟩
  · exact .inl ⟨rfl, rfl, .inl e⟩
theorem pack_sl (h : StoreR G w s) (hg : GoodW G w) {n cap sz : Nat} {cs sp : List AV} {v : Value} (hs : s b = some (.cells (cs ++ sp))) (hc : 0 < cap) (hn : n ≤ cap) (hl : (cs ++ sp).length = cap * sz) (hl2 : cs.length = n * sz) (hvw : views cs = cs)
    (hr : ResR G w [.arr b 0 n cap] v) : ∃ G2, GhStep G G2 ∧ GoodW G2 w ∧ StoreR G2 w (s.del b) ∧ ResR G2 w [.sl true sz n cs] v := by
  obtain ⟨k1, k2, k3, k4⟩ := step_at h hg hs (n * sz)
  obtain ⟨q2, q3, c, t, q4, q5, q6⟩ := h b _ hs
  have e := VR.inv_arr hr.1 hc
  refine ⟨_, k1, k2, k3, ?_, ?_⟩
  · rw [e]
    refine .sl true sz n cs b 0 cap (fun j => c.getD j undef) (q6.left.flat hvw) hl2 (by simp [hl2]) hn (fun j x hj => ?_) (fun j x hj => ?_)
    all_goals
      have hj' : (cs ++ sp)[j]? = some x := by rw [List.getElem?_append_left (List.getElem?_eq_some_iff.1 hj).1]; exact hj
      have hlt : j < c.size := by rw [q5.1]; exact (List.getElem?_eq_some_iff.1 hj').1
      have hget : c[j]? = some (c.getD j undef) := by simp [Array.getD_eq_getD_getElem?, hlt]
    · rw [Nat.zero_add, cell_of_row w q4, hget]
    · exact k4 _ _ (q5.2 j x _ hj' hget).1
  · intro base m' cap' hv _
    rw [e] at hv
    injection hv with e1 e2 e3
    subst e3
    exact ⟨b, 0, c, t, (0, 0), e1.symm, by simp, by simp, q4, by rw [q5.1, hl, Nat.zero_add], fun j _ hj => by simp at hj, Nat.le_refl _, rfl, .inl rfl, fun j y _ hy => by
      have hlt : j < (cs ++ sp).length := by rw [← q5.1]; exact (Array.getElem?_eq_some_iff.1 hy).1
      exact oneCell_of_flatT (q6 _ (List.getElem_mem hlt)) (q5.2 j _ y (List.getElem?_eq_getElem hlt) hy).1⟩
theorem pack_sl0 {sz : Nat} {v : Value} (hr : ResR G w [.arr b 0 0 0] v) : ResR G w [.sl true sz 0 []] v := by
  rcases VR.inv_arr' hr.1 with e | ⟨_, _, e⟩
  · refine ⟨?_, ?_⟩
    · rw [e]; exact .sl true sz 0 [] b 0 0 (fun _ => undef) Fl.nil (by simp) (by simp) (Nat.le_refl _) (fun j c hj => by simp at hj) (fun j c hj => by simp at hj)
    · intro base m' cap' hv hc; rw [e] at hv; injection hv with _ e2 e3; omega
  · refine ⟨by rw [e]; exact .slnil _ _, ?_⟩
    intro base m' cap' hv hc; rw [e] at hv; injection hv with _ e2 e3; omega
end
theorem del_set {s : Store} {b : Nat} {o : SO} (h : s b = none) : (s.set b o).del b = s := by
  funext i
  unfold Store.set Store.del
  by_cases e : i = b
  · subst e; simp [h]
  · simp [e]
@[go_sem] theorem set_at {s : Store} {b : Nat} {o : SO} : (s.set b o) b = some o := by unfold Store.set; simp
def Sub (s2 s : Store) : Prop := ∀ b o, s2 b = some o → s b = some o
theorem Sub.refl (s : Store) : Sub s s := fun _ _ h => h
theorem Sub.set {s s2 : Store} (h : Sub s2 s) {b : Nat} {o : SO} (hb : s b = none) : Sub s2 (s.set b o) := fun b' o' h' => by
  have := h b' o' h'
  unfold Store.set
  split
  · rename_i e; subst e; rw [hb] at this; cases this
  · exact this
theorem Sub.set2 {s s2 : Store} (h : Sub s2 s) {b : Nat} {o : SO} : Sub (s2.set b o) (s.set b o) := fun b' o' h' => by
  unfold Store.set at h' ⊢
  split
  · rename_i e; rw [if_pos e] at h'; exact h'
  · rename_i e; rw [if_neg e] at h'; exact h b' o' h'
theorem Sub.del {s s2 : Store} (h : Sub s2 s) {b : Nat} (hb : s2 b = none) : Sub s2 (s.del b) := fun b' o' h' => by
  unfold Store.del
  split
  · rename_i e; subst e; rw [hb] at h'; cases h'
  · exact h b' o' h'
theorem Sub.none {s s2 : Store} (h : Sub s2 s) {b : Nat} (hb : s b = none) : s2 b = none := by
 cases h2 : s2 b with
 | none => rfl
 | some o => have := h b o h2; rw [hb] at this; cases this
theorem StoreR.sub {G : Gh} {w : World} {s s2 : Store} (h : StoreR G w s) (hs : Sub s2 s) : StoreR G w s2 := fun b o hb => h b o (hs b o hb)
theorem GhStep.refl (G : Gh) : GhStep G G := fun _ => ⟨Nat.le_refl _, fun _ => ⟨rfl, rfl⟩⟩
theorem FN.weak {P : Program} {f : FuncId} {args : List AV} {s : Store} {Q : List AV → Store → Prop} (h : FN P f args s fun rs s' => ∃ s2, Sub s2 s' ∧ Q rs s2) : FN P f args s Q :=
 h.conv fun rs _ ⟨s2, h1, h2⟩ G _ _ hg hs hr => ⟨rs, s2, G, h2, GhStep.refl G, hg, hs.sub h1, hr⟩
theorem FN.row_sl {P : Program} {f : FuncId} {args : List AV} {s s2 : Store} {Q : List AV → Store → Prop} {sz : Nat} {cs : List AV} {n : Nat} (hl2 : cs.length = n * sz) (hvw : views cs = cs) (hq : Q [.sl true sz n cs] s2)
    (h : FN P f args s fun rs s' => (∃ b cap sp, rs = [.arr b 0 n cap] ∧ s' b = some (.cells (cs ++ sp)) ∧ 0 < cap ∧ n ≤ cap ∧ (cs ++ sp).length = cap * sz ∧ Sub s2 (s'.del b)) ∨ (n = 0 ∧ cs = [] ∧ Sub s2 s' ∧ ∃ b, rs = [.arr b 0 0 0])) : FN P f args s Q := by
  refine h.conv fun rs s' hq' G w v hg hs hr => ?_
  rcases hq' with ⟨b, cap, sp, rfl, hb, hc, hn, hl, hsub⟩ | ⟨rfl, rfl, hsub, b, rfl⟩
  · obtain ⟨G2, k1, k2, k3, k4⟩ := pack_sl hs hg hb hc hn hl hl2 hvw hr
    exact ⟨_, _, G2, hq, k1, k2, k3.sub hsub, k4⟩
  · exact ⟨_, _, G, hq, GhStep.refl G, hg, hs.sub hsub, pack_sl0 hr⟩
theorem FN.row_us {P : Program} {f : FuncId} {args : List AV} {s s2 : Store} {Q : List AV → Store → Prop} {sz : Nat} {cs : List AV} {n : Nat} (hl2 : cs.length = n * sz) (hq : Q [.us sz n cs] s2)
    (h : FN P f args s fun rs s' => (∃ b cap sp, rs = [.arr b 0 n cap] ∧ s' b = some (.cells (cs ++ sp)) ∧ 0 < cap ∧ n ≤ cap ∧ (cs ++ sp).length = cap * sz ∧ views (cs ++ sp) = cs ++ sp ∧ Sub s2 (s'.del b)) ∨ (n = 0 ∧ cs = [] ∧ Sub s2 s' ∧ ∃ b, rs = [.arr b 0 0 0])) : FN P f args s Q := by
  refine h.conv fun rs s' hq' G w v hg hs hr => ?_
  rcases hq' with ⟨b, cap, sp, rfl, hb, hc, hn, hl, hvw, hsub⟩ | ⟨rfl, rfl, hsub, b, rfl⟩
  · obtain ⟨G2, k1, k2, k3, k4⟩ := pack_us hs hg hb hc hn hl hl2 hvw hr
    exact ⟨_, _, G2, hq, k1, k2, k3.sub hsub, k4⟩
  · exact ⟨_, _, G, hq, GhStep.refl G, hg, hs.sub hsub, pack_us0 hr⟩
end Go.AB
end

section
namespace Go.AB
open Go
def bigN : Nat := 18446744073709551616
@[go_sem] theorem nbeq_eq (a b : Nat) : Nat.beq a b = (a == b) := Bool.eq_iff_iff.2 (by rw [Nat.beq_eq]; simp)
theorem b_to {A C : Prop} {b : Bool} (h : b = true) (k : A → C) : A → b = true ∧ C := fun x => ⟨h, k x⟩
theorem n_to {A C : Prop} {a b : Nat} (h : a = b) (k : A → C) : A → a = b ∧ C := fun x => ⟨h, k x⟩
theorem FE_cast {P : Program} {f : FuncId} {as1 as2 rs : List AV} {s s' : Store} (e : as1 = as2) (h : FE P f as1 s rs s') : FE P f as2 s rs s' := e ▸ h
def loadDR (σ : St) (d : Option Nat) (K : St → Prop) (b off : Nat) : Option SO → Prop
 | some (.cells cs) => takeC off cs fun cs' a => K ({ σ with s := σ.s.set b (.cells cs') }.put d a)
 | _ => False
@[go_sem] theorem loadDW_ref (σ : St) (d : Option Nat) (K : St → Prop) (b off : Nat) : loadDW σ d K (.ref b off) = loadDR σ d K b off (σ.s b) := by
 show (match σ.s b with | some (.cells cs) => takeC off cs fun cs' a => K ({ σ with s := σ.s.set b (.cells cs') }.put d a) | _ => False) = _
 unfold loadDR
 rcases σ.s b with _ | ⟨_ | _⟩ <;> rfl
@[go_sem] theorem loadDR_cells (σ : St) (d : Option Nat) (K : St → Prop) (b off : Nat) (cs : List AV) : loadDR σ d K b off (some (.cells cs)) = takeC off cs fun cs' a => K ({ σ with s := σ.s.set b (.cells cs') }.put d a) := rfl
@[go_sem] theorem takeC_bb (t n : Nat) (ds cs : List AV) (k : List AV → AV → Prop) : takeC 0 (.bb t n ds :: cs) k = k (.sl false 1 n ds :: cs) (.bb t n ds) := rfl
@[go_sem] theorem takeC_succ (a : AV) (n : Nat) (cs : List AV) (k : List AV → AV → Prop) : takeC (n + 1) (a :: cs) k = takeC n cs fun cs' x => k (a :: cs') x := by
 have e : ∀ x, setAt (a :: cs) (n + 1) [x] = a :: setAt cs n [x] := fun x => by
  unfold setAt
  rw [List.take_succ_cons, show n + 1 + [x].length = (n + [x].length) + 1 by simp [Nat.add_right_comm], List.drop_succ_cons]
  rfl
 unfold takeC
 rw [List.getElem?_cons_succ]
 cases h : cs[n]? with
 | none => rfl
 | some b => cases b <;> first | rfl | (simp only [e])
def ixI : AV → Option Int
 | .int _ n => some n
 | _ => none
@[go_sem] theorem ixV_none (f : IX → AV) (d : Int) : ixV f none d = some d := rfl
@[go_sem] theorem ixV_some (f : IX → AV) (x : IX) (d : Int) : ixV f (some x) d = ixI (f x) := rfl
@[go_sem] theorem ixI_int (k : IntKind) (n : Int) : ixI (.int k n) = some n := rfl
attribute [go_sem] Option.isSome_some Bool.cond_true
@[go_sem] theorem arrOff_zero (off cap sz : Nat) : arrOff off cap 0 sz = off := by
 unfold arrOff
 cases (cap == 0) <;> simp
@[go_sem] theorem toNat_zero : (0 : Int).toNat = 0 := rfl
attribute [go_sem] Int.toNat_natCast Int.sub_zero Nat.sub_zero
@[go_sem] theorem toNat_sub' (a b : Nat) : ((a : Int) - (b : Int)).toNat = a - b := by omega
section
variable {σ : St} {d : Option Nat} {K : St → Prop} {sz by' : Nat} {zero : List AV} {b off n cap m : Nat} {cs ds : List AV}
theorem srcV_arr {s : Store} (hs : s b = some (.cells cs)) (hf : off + m * sz ≤ cs.length) : srcV s sz (.arr b off m cap) = some (m, views (AB.sub cs off (m * sz))) := by
  show (bif m == 0 then some (0, []) else cellsAt m sz off (s b)) = _
  by_cases hm : m = 0
  · subst hm; simp [AB.sub, views]
  · rw [show (m == 0) = false by simpa using hm, hs]
    show (bif decide (off + m * sz ≤ cs.length) then some (m, views (AB.sub cs off (m * sz))) else none) = _
    rw [decide_eq_true hf]; rfl
theorem srcV_sl (s : Store) (ow : Bool) : srcV s sz (.sl ow sz m ds) = some (m, views ds) := by unfold srcV; simp
theorem srcV_none (s : Store) : srcV s sz (.arr b off 0 cap) = some (0, []) := rfl
theorem oldsV_arr {s : Store} (hs : s b = some (.cells cs)) (hf : off + n * sz ≤ cs.length) : oldsV s sz b off n = some (views (AB.sub cs off (n * sz))) := by
  unfold oldsV
  by_cases hm : n = 0
  · subst hm; simp [AB.sub, views]
  · rw [show (n == 0) = false by simpa using hm, hs]
    show ((bif decide (off + n * sz ≤ cs.length) then some (n, views (AB.sub cs off (n * sz))) else none) : Option (Nat × List AV)).map Prod.snd = _
    rw [decide_eq_true hf]; rfl
theorem appendAW_in (hz : zero.length = sz) (hs : σ.s b = some (.cells cs)) (hf : off + cap * sz ≤ cs.length) (hm : n + m ≤ cap)
  (hk : K ({ σ with s := σ.s.set b (.cells (setAt cs (off + n * sz) ds)) }.put d (.arr b off (n + m) cap))) : appendAW sz by' zero σ d K (.arr b off n cap) (some (m, ds)) := by
 have hn : off + n * sz ≤ cs.length := Nat.le_trans (Nat.add_le_add_left (Nat.mul_le_mul_right _ (by omega)) _) hf
 show appA sz by' zero σ d K b off n cap m ds (oldsV σ.s sz b off n)
 rw [oldsV_arr hs hn]
 refine ⟨hz, fun _ => .inr ⟨by rw [hs]; exact hf, ?_⟩, fun h => by omega⟩
 rw [hs]; exact hk
theorem appendAW_new (hz : zero.length = sz) {olds : List AV} (ho : oldsV σ.s sz b off n = some olds) (hm : cap < n + m) (hr : (n + m) * by' ≤ room)
  (hk : ∀ b' cap', σ.s b' = none → n + m ≤ cap' → K ({ σ with s := σ.s.set b' (.cells (olds ++ ds ++ (List.replicate (cap' - (n + m)) zero).flatten)) }.put d (.arr b' 0 (n + m) cap'))) : appendAW sz by' zero σ d K (.arr b off n cap) (some (m, ds)) := by
 show appA sz by' zero σ d K b off n cap m ds (oldsV σ.s sz b off n)
 rw [ho]
 exact ⟨hz, fun h => by omega, fun _ => ⟨hr, hk⟩⟩
theorem appendAW_zero (hz : zero.length = sz) {olds : List AV} (ho : oldsV σ.s sz b off n = some olds) (hm : n ≤ cap) (hk : K (σ.put d (.arr b off n cap))) : appendAW sz by' zero σ d K (.arr b off n cap) (some (0, ds)) := by
 show appA sz by' zero σ d K b off n cap 0 ds (oldsV σ.s sz b off n)
 rw [ho]
 exact ⟨hz, fun _ => .inl ⟨rfl, hk⟩, fun h => by omega⟩
theorem clearAW_in (hz : views zero = zero) (hs : σ.s b = some (.cells cs)) (hf : off + n * zero.length ≤ cs.length)
  (hk : K ({ σ with s := σ.s.set b (.cells (setAt cs off (List.replicate n zero).flatten)) }.put d (.tup []))) : clearAW zero σ d K (.arr b off n cap) := by
 refine .inr ⟨by rw [hs]; exact hf, hz, ?_⟩
 rw [hs]; exact hk
theorem appendZW_new (hz : zero.length = sz) (hv : views zero = zero) {olds : List AV} (ho : oldsV σ.s sz b off n = some olds) (hm : cap < n + m) (hr : (n + m) * by' ≤ room)
  (hk : ∀ b' cap', σ.s b' = none → n + m ≤ cap' → K ({ σ with s := σ.s.set b' (.cells (olds ++ (List.replicate m zero).flatten ++ (List.replicate (cap' - (n + m)) zero).flatten)) }.put d (.arr b' 0 (n + m) cap'))) : appendZW sz by' zero σ d K (.arr b off n cap) (.int .i64 (m : Nat)) := by
 show 0 ≤ ((m : Nat) : Int) ∧ _
 refine ⟨Int.natCast_nonneg m, by simpa using hm, hv, ?_⟩
 rw [Int.toNat_natCast]
 show appA sz by' zero σ d K b off n cap m _ (oldsV σ.s sz b off n)
 rw [ho]
 exact ⟨hz, fun h => by omega, fun _ => ⟨hr, hk⟩⟩
theorem arrOff_lt {off cap l sz : Nat} (h : l < cap) : arrOff off cap l sz = off + l * sz := by
 unfold arrOff; rw [show (cap == l) = false by simp; omega]; rfl
end
section
variable {α : Type} [Enc α]
theorem flat_take' (l : List α) (k : Nat) : flat (l.take k) = (flat l).take (k * Enc.w α) := (flat_take l k).symm
theorem flat_drop' (l : List α) (k : Nat) : flat (l.drop k) = (flat l).drop (k * Enc.w α) := (flat_drop l k).symm
theorem row_sub (l : List α) (sp : List AV) (n j m : Nat) (hn : n = Enc.w α) (h : j + m ≤ l.length) : AB.sub (flat l ++ sp) (j * n) (m * n) = flat ((l.drop j).take m) := by
 subst hn
 rw [← flat_sub l _ j m rfl]
 unfold AB.sub
 have h1 : j * Enc.w α ≤ (flat l).length := by rw [flat_len]; exact Nat.mul_le_mul_right _ (by omega)
 rw [List.drop_append_of_le_length h1, List.take_append_of_le_length]
 rw [List.length_drop, flat_len, ← Nat.sub_mul]
 exact Nat.mul_le_mul_right _ (by omega)
theorem row_set (l l' : List α) (sp : List AV) (n i : Nat) (hn : n = Enc.w α) (h : i + l'.length ≤ l.length) : setAt (flat l ++ sp) (i * n) (flat l') = flat (l.take i ++ l' ++ l.drop (i + l'.length)) ++ sp := by
 subst hn
 unfold setAt
 have e1 : i * Enc.w α + (flat l').length = (i + l'.length) * Enc.w α := by rw [flat_len, Nat.add_mul]
 have h1 : i * Enc.w α ≤ (flat l).length := by rw [flat_len]; exact Nat.mul_le_mul_right _ (by omega)
 have h2 : (i + l'.length) * Enc.w α ≤ (flat l).length := by rw [flat_len]; exact Nat.mul_le_mul_right _ h
 rw [e1, List.take_append_of_le_length h1, List.drop_append_of_le_length h2, flat_append, flat_append, flat_take', flat_drop']
 simp [List.append_assoc]
theorem row_room (l l' : List α) (sp : List AV) (n : Nat) (hn : n = Enc.w α) (h : l'.length * n ≤ sp.length) : setAt (flat l ++ sp) (l.length * n) (flat l') = flat (l ++ l') ++ sp.drop (l'.length * n) := by
 subst hn
 unfold setAt
 have e0 : l.length * Enc.w α = (flat l).length := (flat_len l).symm
 have e1 : (flat l').length = l'.length * Enc.w α := flat_len l'
 rw [e0, List.take_left, List.drop_append, e1, flat_append]
 rw [List.drop_of_length_le (by omega)]
 simp
theorem flat_rep (z : α) (k : Nat) : flat (List.replicate k z) = (List.replicate k (Enc.cells z)).flatten := by
 unfold flat; rw [List.map_replicate]
end
end Go.AB
end

section
namespace Go.AB
open Go
attribute [go_sem] start startE resVs resV resC allV retK Nat.ble_eq
theorem mix : Go.Proofs.Tryz.prog.follows .mixedOrders = true := by kernel_rfl
end Go.AB
end

section
namespace Go.AB
open Go
end Go.AB
end

section
namespace Go.AB
open Go
theorem iter_toR {P : Program} {S O : Type} {body : S → Option (S ⊕ O)} {s0 : S} {kf : O → Prop} {live : List (Nat × Bool)} {b : IC} {Q : Exit → St → Prop} {σ : St} (R : S → St → Prop)
    (h0 : R s0 (σ.keepV live))
    (hb : ∀ (J : St → Prop) (s : S) (τ : St), R s τ → ok (body s) (caseS (fun t => ∀ τ', R t τ' → J τ') kf) → cwp P b (joinK live J Q) τ) : ok (iter body s0) kf → cwp P (.loop live b) Q σ := by
  intro h
  have hmin : ∀ τ, (∃ m s, R s τ ∧ ok (iterN body m s) kf) → ∃ m, (∃ s, R s τ ∧ ok (iterN body m s) kf) ∧ ∀ k, k < m → ¬ ∃ s, R s τ ∧ ok (iterN body k s) kf := by
    rintro τ ⟨m, s, h⟩
    induction m using Nat.strongRecOn generalizing s with
    | _ m ih =>
      by_cases hk : ∃ k, k < m ∧ ∃ s, R s τ ∧ ok (iterN body k s) kf
      · obtain ⟨k, hk, s', h'⟩ := hk
        exact ih k hk s' h'
      · exact ⟨m, ⟨s, h⟩, fun k hk' hs => hk ⟨k, hk', hs⟩⟩
  have hμ : ∃ μ : St → Nat, ∀ τ, (∃ m s, R s τ ∧ ok (iterN body m s) kf) → (∃ s, R s τ ∧ ok (iterN body (μ τ) s) kf) ∧ ∀ k, k < μ τ → ¬ ∃ s, R s τ ∧ ok (iterN body k s) kf :=
    ⟨fun τ => Classical.epsilon fun m => (∃ s, R s τ ∧ ok (iterN body m s) kf) ∧ ∀ k, k < m → ¬ ∃ s, R s τ ∧ ok (iterN body k s) kf, fun τ hτ => Classical.epsilon_spec (hmin τ hτ)⟩
  obtain ⟨μ, hμ⟩ := hμ
  refine ⟨fun τ => ∃ m s, R s τ ∧ ok (iterN body m s) kf, μ, ⟨_, s0, h0, h⟩, ?_⟩
  intro τ hτ
  obtain ⟨⟨s, e, hs⟩, _⟩ := hμ τ hτ
  generalize hm : μ τ = m at hs
  cases m with
  | zero => exact (iterN_zero hs).elim
  | succ m =>
    rw [loopK_join]
    obtain ⟨x, hx, k⟩ := iterN_succ hs
    refine hb _ s τ e ⟨x, hx, ?_⟩
    cases x with
    | inr o => exact k
    | inl t =>
      intro τ' ht
      refine ⟨⟨m, t, ht, k⟩, ?_⟩
      have h2 := (hμ τ' ⟨m, t, ht, k⟩).2
      rcases Nat.lt_or_ge m (μ τ') with hlt | hge
      · exact (h2 m hlt ⟨t, ht, k⟩).elim
      · omega
theorem flat_cell2 {α : Type} [Enc α] (l : List α) (sp : List AV) {i r : Nat} (hi : i < l.length) (hr : r < Enc.w α) : (flat l ++ sp)[i * Enc.w α + r]? = (Enc.cells l[i])[r]? := by
 have hlt : i * Enc.w α + r < (flat l).length := by
  rw [flat_len]
  calc i * Enc.w α + r < (i + 1) * Enc.w α := by rw [Nat.add_mul]; omega
   _ ≤ l.length * Enc.w α := Nat.mul_le_mul_right _ hi
 rw [List.getElem?_append_left hlt]
 have h := flat_sub l (Enc.w α) i 1 rfl
 rw [Nat.one_mul, List.drop_eq_getElem_cons hi] at h
 have h2 : (AB.sub (flat l) (i * Enc.w α) (Enc.w α))[r]? = (Enc.cells l[i])[r]? := by
  rw [h]
  show (flat [l[i]])[r]? = _
  unfold flat
  simp
 rw [sub_get, if_pos hr] at h2
 exact h2
abbrev RowP := Option (Nat × Nat × List AV)
section
variable {α : Type} [Enc α]
def rowB : RowP → Nat
 | none => 0
 | some (b, _, _) => b
def rowC : RowP → Nat
 | none => 0
 | some (_, cap, _) => cap
abbrev rowA (r : RowP) (n : Nat) : AV := .arr (rowB r) 0 n (rowC r)
def rowS (s : Store) (r : RowP) (l : List α) : Store := match r with
 | none => s
 | some (b, _, sp) => s.set b (.cells (flat l ++ sp))
def RowOK (s : Store) (r : RowP) (l : List α) : Prop := match r with
 | none => l = []
 | some (b, cap, sp) => s b = none ∧ 0 < cap ∧ l.length ≤ cap ∧ (flat l ++ sp).length = cap * Enc.w α ∧ views sp = sp
theorem rowS_sub {s : Store} {r : RowP} {l : List α} (h : RowOK s r l) : Sub s (rowS s r l) := by
 cases r with
 | none => exact Sub.refl s
 | some x => exact (Sub.refl s).set h.1
theorem rowS_get {s : Store} {r : RowP} {l : List α} (h : RowOK s r l) {b : Nat} {o : SO} (hb : s b = some o) : rowS s r l b = some o := rowS_sub h b o hb
theorem app_row {σ : St} {d : Option Nat} {K : St → Prop} {sz by' : Nat} {s : Store} {r : RowP} {l : List α} {z v : α} (hσ : σ.s = rowS s r l) (h : RowOK s r l) (hz : sz = Enc.w α) (hr : (l.length + 1) * by' ≤ room)
    (hK : ∀ s' r', Sub s s' → RowOK s' r' (l ++ [v]) → K ({ σ with s := rowS s' r' (l ++ [v]) }.put d (rowA r' (l.length + 1)))) :
    appendAW sz by' (Enc.cells z) σ d K (rowA r l.length) (some (1, Enc.cells v)) := by
  subst hz
  have hcz : (Enc.cells z).length = Enc.w α := Enc.len z
  have hcv : flat [v] = Enc.cells v := by unfold flat; simp
  have hvz : views (Enc.cells z) = Enc.cells z := Enc.vw z
  have fresh : ∀ (s' : Store) (b' cap' : Nat), s' b' = none → l.length + 1 ≤ cap' → RowOK s' (some (b', cap', flat (List.replicate (cap' - (l.length + 1)) z))) (l ++ [v]) := fun s' b' cap' hb hc => by
    refine ⟨hb, by omega, by simpa using hc, ?_, flat_views _⟩
    rw [List.length_append, flat_len, flat_len, List.length_replicate, List.length_append, ← Nat.add_mul]
    congr 1
    simp; omega
  cases r with
  | none =>
    obtain rfl : l = [] := h
    show appendAW (Enc.w α) by' (Enc.cells z) σ d K (.arr 0 0 0 0) _
    refine appendAW_new hcz (olds := []) rfl (by simp) hr fun b' cap' hb' hc => ?_
    rw [List.nil_append, ← flat_rep, ← hcv]
    rw [hσ] at hb' ⊢
    have := hK s (some (b', cap', flat (List.replicate (cap' - (0 + 1)) z))) (Sub.refl s) (fresh s b' cap' hb' hc)
    exact this
  | some x =>
    obtain ⟨b, cap, sp⟩ := x
    obtain ⟨h1, h2, h3, h4, h5⟩ := h
    have hs : σ.s b = some (.cells (flat l ++ sp)) := by rw [hσ]; exact set_at
    show appendAW (Enc.w α) by' (Enc.cells z) σ d K (.arr b 0 l.length cap) _
    by_cases hc : l.length + 1 ≤ cap
    · refine appendAW_in hcz hs (by rw [h4, Nat.zero_add]; exact Nat.le_refl _) hc ?_
      have hsp : [v].length * Enc.w α ≤ sp.length := by
        rw [List.length_append, flat_len] at h4
        have : (l.length + 1) * Enc.w α ≤ cap * Enc.w α := Nat.mul_le_mul_right _ hc
        rw [Nat.add_mul, Nat.one_mul] at this
        simp; omega
      have st := row_room l [v] sp (Enc.w α) rfl hsp
      rw [Nat.zero_add, ← hcv, st]
      have e : σ.s.set b (.cells (flat (l ++ [v]) ++ sp.drop ([v].length * Enc.w α))) = rowS s (some (b, cap, sp.drop ([v].length * Enc.w α))) (l ++ [v]) := by
        rw [hσ]
        show (s.set b _).set b _ = s.set b _
        exact set_set ..
      rw [e]
      refine hK s _ (Sub.refl s) ⟨h1, h2, by simpa using hc, ?_, ?_⟩
      · rw [List.length_append, flat_len] at h4 ⊢
        rw [List.length_drop, List.length_append, Nat.add_mul]
        omega
      · unfold views at h5 ⊢
        rw [List.map_drop, h5]
    · refine appendAW_new hcz (oldsV_arr hs (by
        rw [Nat.zero_add, h4]; exact Nat.mul_le_mul_right _ h3)) (by omega) hr fun b' cap' hb' hc' => ?_
      have ho : views (AB.sub (flat l ++ sp) 0 (l.length * Enc.w α)) = flat l := by
        have := row_sub l sp (Enc.w α) 0 l.length rfl (by omega)
        rw [Nat.zero_mul] at this
        rw [this, List.drop_zero, List.take_length, flat_views]
      rw [ho, ← flat_rep, ← hcv, ← flat_append]
      rw [hσ] at hb' ⊢
      have hb0 : (s.set b (.cells (flat l ++ sp))) b' = none := hb'
      exact hK (s.set b (.cells (flat l ++ sp))) (some (b', cap', flat (List.replicate (cap' - (l.length + 1)) z))) ((Sub.refl s).set h1) (fresh _ b' cap' hb0 hc')
theorem row_at {s : Store} {r : RowP} {l : List α} (h : RowOK s r l) (hl : 0 < l.length) : ∃ b cap sp, r = some (b, cap, sp) := by
 cases r with
 | none => rw [show l = [] from h] at hl; simp at hl
 | some x => exact ⟨_, _, _, rfl⟩
theorem frz_row {σ : St} {d : Option Nat} {K : St → Prop} {sz : Nat} {s : Store} {r : RowP} {l : List α} (hσ : σ.s = rowS s r l) (h : RowOK s r l) (hz : sz = Enc.w α)
    (hK : K ({ σ with s := s }.put d (.sl true sz l.length (flat l)))) : frzW sz true σ d K (rowA r l.length) := by
  subst hz
  cases r with
  | none =>
    obtain rfl : l = [] := h
    show frzW (Enc.w α) true σ d K (.arr 0 0 0 0)
    refine .inl ⟨rfl, rfl, rfl, ?_⟩
    have e : { σ with s := s } = σ := by
      have : σ.s = s := hσ
      rw [← this]
    rw [e] at hK
    exact hK
  | some x =>
    obtain ⟨b, cap, sp⟩ := x
    obtain ⟨h1, h2, h3, h4, h5⟩ := h
    have hs : σ.s b = some (.cells (flat l ++ sp)) := by rw [hσ]; exact set_at
    show frzW (Enc.w α) true σ d K (.arr b 0 l.length cap)
    refine .inr ⟨h2, h3, fun _ => ⟨rfl, ?_, ?_⟩, ?_⟩
    · rw [hs]; show 0 + cap * Enc.w α ≤ _; rw [h4]; omega
    · rw [hs]; show _ = 0 + cap * Enc.w α; rw [h4]; omega
    · have ho : views (AB.sub (flat l ++ sp) 0 (l.length * Enc.w α)) = flat l := by
        have := row_sub l sp (Enc.w α) 0 l.length rfl (by omega)
        rw [Nat.zero_mul] at this
        rw [this, List.drop_zero, List.take_length, flat_views]
      rw [hs]
      show frzW.frzK _ _ σ d K b l.length (bif decide (0 + l.length * Enc.w α ≤ (flat l ++ sp).length) then some (l.length, views (AB.sub (flat l ++ sp) 0 (l.length * Enc.w α))) else none)
      rw [decide_eq_true (by rw [Nat.zero_add, h4]; exact Nat.mul_le_mul_right _ h3), ho]
      have e : σ.s.del b = s := by
        rw [hσ]
        exact del_set h1
      show K ({ σ with s := σ.s.del b }.put d (.sl true _ l.length (flat l)))
      rw [e]; exact hK
end
end Go.AB
end
