/- Plain laws on models: loops, numbers, rows. -/
import Derived.Test.YtbinmjafmcaehaaTy3
namespace Go.AB
open Go

theorem iterN_inv {S O : Type} {body : S → Option (S ⊕ O)} (I : S → Prop) (μ : S → Nat) (Post : O → Prop)
    (step : ∀ s, I s → ∃ x, body s = some x ∧ (match x with | .inl t => I t ∧ μ t < μ s | .inr o => Post o)) : ∀ (n : Nat) (s : S), I s → μ s < n → ∃ o, iterN body n s = some o ∧ Post o
  | 0, _, _, h => absurd h (Nat.not_lt_zero _)
  | n + 1, s, hi, hn => by
    obtain ⟨x, hx, h⟩ := step s hi
    cases x with
    | inl t =>
      obtain ⟨o, h1, h2⟩ := iterN_inv I μ Post step n t h.1 (by have := h.2; omega)
      exact ⟨o, by unfold iterN; rw [hx]; exact h1, h2⟩
    | inr o => exact ⟨o, by unfold iterN; rw [hx], h⟩

/-- A loop that goes on as long as it says. -/
theorem iter_inv {S O : Type} {body : S → Option (S ⊕ O)} {s0 : S} (I : S → Prop) (μ : S → Nat) (Post : O → Prop) (h0 : I s0) (hμ : μ s0 < 18446744073709551616)
    (step : ∀ s, I s → ∃ x, body s = some x ∧ (match x with | .inl t => I t ∧ μ t < μ s | .inr o => Post o)) : ∃ o, iter body s0 = some o ∧ Post o :=
  iterN_inv I μ Post step _ s0 h0 hμ

/-- The same where what comes of it is known. -/
theorem iter_eq {S O : Type} {body : S → Option (S ⊕ O)} {s0 : S} {o : O} (I : S → Prop) (μ : S → Nat) (h0 : I s0) (hμ : μ s0 < 18446744073709551616)
    (step : ∀ s, I s → (∃ t, body s = some (.inl t) ∧ I t ∧ μ t < μ s) ∨ body s = some (.inr o)) : iter body s0 = some o := by
  obtain ⟨p, h1, h2⟩ := iter_inv I μ (fun p => p = o) h0 hμ fun s hs => by
    rcases step s hs with ⟨t, h1, h2⟩ | h1
    · exact ⟨_, h1, h2⟩
    · exact ⟨_, h1, rfl⟩
  rw [h1, h2]

theorem w64_id {n : Int} (h1 : -9223372036854775808 ≤ n) (h2 : n ≤ 9223372036854775807) : w64 n = n := by
  unfold w64 IntKind.wrap
  have : (2 ^ IntKind.i64.bits : Int) = 18446744073709551616 := by decide
  have h3 : (2 ^ (IntKind.i64.bits - 1) : Int) = 9223372036854775808 := by decide
  rw [this, h3]
  simp only [IntKind.signed, Bool.true_and, decide_eq_true_eq]
  split <;> omega

@[simp] theorem bnd_some {α β : Type} (a : α) (f : α → Option β) : bnd (some a) f = f a := rfl
@[simp] theorem bnd_none {α β : Type} (f : α → Option β) : bnd none f = none := rfl
@[simp] theorem jn_some {α β : Type} (a : α) (f : α → Option β) : jn (some a) f = f a := rfl
@[simp] theorem jn_none {α β : Type} (f : α → Option β) : jn none f = none := rfl
@[simp] theorem bndS_l {X Y α : Type} (x : X) (F : X → Option α) (G : Y → Option α) : bndS (some (.inl x)) F G = F x := rfl
@[simp] theorem bndS_r {X Y α : Type} (y : Y) (F : X → Option α) (G : Y → Option α) : bndS (some (.inr y)) F G = G y := rfl
@[simp] theorem jnS_l {X Y α : Type} (x : X) (F : X → Option α) (G : Y → Option α) : jnS (some (.inl x)) F G = F x := rfl
@[simp] theorem jnS_r {X Y α : Type} (y : Y) (F : X → Option α) (G : Y → Option α) : jnS (some (.inr y)) F G = G y := rfl
@[simp] theorem jn_id {α : Type} (o : Option α) : jn o (fun a => some a) = o := by cases o <;> rfl
@[simp] theorem bnd_id {α : Type} (o : Option α) : bnd o (fun a => some a) = o := by cases o <;> rfl
theorem need_pos {α : Type} {c : Prop} [Decidable c] (h : c) (o : Option α) : need c o = o := if_pos h
@[simp] theorem need_true {α : Type} [Decidable True] (o : Option α) : need True o = o := if_pos trivial
@[simp] theorem whenB_t {α : Type} (z : α) (o : Option α) : whenB true z o = o := rfl
@[simp] theorem whenB_f {α : Type} (z : α) (o : Option α) : whenB false z o = some z := rfl
@[simp] theorem caseS_l' {A B C : Type} (f : A → C) (g : B → C) (a : A) : caseS f g (.inl a) = f a := rfl
@[simp] theorem caseS_r' {A B C : Type} (f : A → C) (g : B → C) (b : B) : caseS f g (.inr b) = g b := rfl
theorem ix_at {α : Type} [Enc α] {l : List α} {i : Int} (h : i.toNat < l.length) : ix l i = l[i.toNat] := by
  unfold ix; rw [List.getD_eq_getElem?_getD, List.getElem?_eq_getElem h]; rfl
theorem ix_nat {α : Type} [Enc α] {l : List α} {k : Nat} (h : k < l.length) : ix l (k : Int) = l[k] := by
  rw [ix_at (by simpa using h)]; simp
theorem ix_get {α : Type} [Enc α] {l : List α} {k : Nat} {a : α} (h : l[k]? = some a) : ix l (k : Int) = a := by
  unfold ix; rw [List.getD_eq_getElem?_getD]; simp [h]
end Go.AB
