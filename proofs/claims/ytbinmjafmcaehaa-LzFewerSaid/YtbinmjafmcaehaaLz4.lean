/- Lz: what Expand and Check come to. -/
import Derived.Test.YtbinmjafmcaehaaLz2
namespace Go.AB
open Go

theorem outer_eq {S A B A' B' R : Type} {body : S → Option (S ⊕ (A ⊕ B))} {s0 : S} {F1 : A → Option (A' ⊕ B')} {G1 : B → Option (A' ⊕ B')} {F2 : A' → Option R} {G2 : B' → Option R} {r : R}
    (I : S → Prop) (μ : S → Nat) (Post : A ⊕ B → Prop) (h0 : I s0) (hμ : μ s0 < 18446744073709551616)
    (step : ∀ s, I s → ∃ x, body s = some x ∧ (match x with | .inl t => I t ∧ μ t < μ s | .inr o => Post o))
    (fin : ∀ o, Post o → jnS (bndS (some o) F1 G1) F2 G2 = some r) : jnS (bndS (iter body s0) F1 G1) F2 G2 = some r := by
  obtain ⟨o, h1, h2⟩ := iter_inv (body := body) I μ Post h0 hμ fun s hs => by
    obtain ⟨x, hx, h⟩ := step s hs
    refine ⟨x, hx, ?_⟩
    cases x with
    | inl t => exact h
    | inr o => exact h
  rw [h1]; exact fin o h2

def copyS (f : Nat) : Nat → List UInt8 → List UInt8
  | 0, o => o
  | n + 1, o => copyS f n (o ++ [ix o ((o.length : Int) - (f : Int))])
theorem copyS_len (f : Nat) : ∀ (n : Nat) (o : List UInt8), (copyS f n o).length = o.length + n
  | 0, _ => rfl
  | n + 1, o => by rw [copyS, copyS_len f n]; simp; omega

theorem copy_eq (o0 : List UInt8) (far L : Int) (n f : Nat) (hL : L = n) (hf : far = f) (h1 : n = 0 ∨ (1 ≤ f ∧ f ≤ o0.length)) (h3 : n ≤ 258) (h4 : o0.length ≤ 16777217) :
    iter (fun ((out24, t25) : (List UInt8) × Int) =>
      if decide (t25 < L) then
        need (0 ≤ w64 ((out24.length : Int) - far) ∧ w64 ((out24.length : Int) - far) < out24.length) <|
        need ((out24.length + [ix out24 (w64 ((out24.length : Int) - far))].length) * 1 ≤ room) <|
        some (.inl (out24 ++ [ix out24 (w64 ((out24.length : Int) - far))], w64 (t25 + 1)))
      else
        some (.inr out24)) (o0, 0) = some (copyS f n o0) := by
  subst hL; subst hf
  refine iter_eq (fun (s : List UInt8 × Int) => ∃ k : Nat, s.2 = (k : Int) ∧ k ≤ n ∧ s.1.length = o0.length + k ∧ copyS f (n - k) s.1 = copyS f n o0) (fun (s : List UInt8 × Int) => n - s.2.toNat) ⟨0, rfl, by omega, rfl, rfl⟩ (by simp; omega) ?_
  rintro ⟨o, t⟩ ⟨k, rfl, h5, h6, h7⟩
  simp only at h6 h7
  by_cases hk : k < n
  · left
    have hr : room = 140737488355328 := by decide
    have w1 : w64 ((o.length : Int) - (f : Int)) = (o.length : Int) - (f : Int) := w64_id (by omega) (by omega)
    have w2 : w64 ((k : Int) + 1) = ((k + 1 : Nat) : Int) := by rw [w64_id (by omega) (by omega)]; omega
    refine ⟨(o ++ [ix o ((o.length : Int) - (f : Int))], ((k + 1 : Nat) : Int)), ?_, ⟨k + 1, rfl, by omega, by simp; omega, ?_⟩, by simp; omega⟩
    · simp only [w1, w2]
      rw [if_pos (by simp; omega), need_pos (by omega), need_pos (by simp; omega)]
    · rw [← h7, show n - k = (n - (k + 1)) + 1 by omega, copyS]
  · right
    have : n - k = 0 := by omega
    rw [this, copyS] at h7
    simp only
    rw [if_neg (by simp; omega), h7]

def mayB (t : lz_Token) : Bool := if t.Length == 0 then t.Far == 0 else (((((t.Byte.toNat : Int) == 0) && (decide (t.Length ≥ 3))) && (decide (t.Length ≤ 258))) && (decide (t.Far ≥ 1))) && (decide (t.Far ≤ 32768))
theorem may_eq (t : lz_Token) : lz_Token_may t = some (mayB t) := by
  unfold lz_Token_may mayB; split <;> rfl
theorem size_eq (t : lz_Token) : lz_Token_size t = some (max 1 t.Length) := rfl
theorem mayB_facts {t : lz_Token} (h : mayB t = true) : (t.Length = 0 ∧ t.Far = 0) ∨ (3 ≤ t.Length ∧ t.Length ≤ 258 ∧ 1 ≤ t.Far ∧ t.Far ≤ 32768) := by
  unfold mayB at h
  split at h
  · rename_i h0
    exact .inl ⟨by simpa using h0, by simpa using h⟩
  · right
    simp at h
    omega

/-- A token's bytes laid behind what is there. -/
def laidT (t : lz_Token) (o : List UInt8) : List UInt8 := copyS t.Far.toNat t.Length.toNat (if t.Length = 0 then o ++ [t.Byte] else o)

def expS (limit : Int) : List lz_Token → List UInt8 → List UInt8 × Int
  | [], o => (o, 0)
  | t :: ts, o => if mayB t = false then ([], 2) else if t.Far > o.length then ([], 14) else if max 1 t.Length > limit - o.length then ([], 3) else expS limit ts (laidT t o)
def expT (limit : Int) (L : List lz_Token) : List UInt8 × Int := if limit < 0 ∨ limit > 16777216 then ([], 2) else expS limit L []

theorem laidT_len {t : lz_Token} (h : mayB t = true) (o : List UInt8) : ((laidT t o).length : Int) = o.length + max 1 t.Length := by
  unfold laidT
  rw [copyS_len]
  rcases mayB_facts h with ⟨h1, _⟩ | ⟨h1, _⟩
  · rw [if_pos h1, h1]; simp; omega
  · rw [if_neg (by omega)]; omega

theorem lz_Expand_eq (L : List lz_Token) (limit : Int) (hL : L.length ≤ 140737488355328) : lz_Expand L limit = some (expT limit L) := by
  unfold lz_Expand expT
  by_cases hc : limit < 0 ∨ limit > 16777216
  · rw [if_pos hc, if_pos (by simpa using hc)]
  rw [if_neg hc, if_neg (by simpa using hc)]
  have hr : room = 140737488355328 := by decide
  refine outer_eq (fun (s : List UInt8 × Int) => ∃ k : Nat, s.2 = (k : Int) ∧ k ≤ L.length ∧ (s.1.length : Int) ≤ limit ∧ expS limit (L.drop k) s.1 = expS limit L []) (fun (s : List UInt8 × Int) => L.length - s.2.toNat)
    (fun o => match o with | .inl a => expS limit L [] = (a, 0) | .inr e => expS limit L [] = e) ⟨0, rfl, by omega, by simp; omega, rfl⟩ (by simp; omega) ?_ ?_
  · rintro ⟨o, t⟩ ⟨k, rfl, h1, h2, h3⟩
    simp only at h2 h3
    by_cases hk : k < L.length
    · have w1 : w64 ((k : Int) + 1) = ((k + 1 : Nat) : Int) := by rw [w64_id (by omega) (by omega)]; omega
      have w2 : w64 (limit - (o.length : Int)) = limit - o.length := w64_id (by omega) (by omega)
      rw [List.drop_eq_getElem_cons hk, expS] at h3
      simp only [ix_nat hk, w1, w2, may_eq, size_eq, bnd_some]
      generalize L[k] = x at h3
      rw [if_pos (by simp; omega), need_pos (by omega)]
      cases hm : mayB x with
      | false =>
        rw [if_pos hm] at h3
        exact ⟨.inr (.inr ([], 2)), by simp, h3.symm⟩
      | true =>
        rw [if_neg (by simp [hm])] at h3
        by_cases hf : x.Far > o.length
        · rw [if_pos hf] at h3
          exact ⟨.inr (.inr ([], 14)), by simp [hf], h3.symm⟩
        · rw [if_neg hf] at h3
          by_cases hs : max 1 x.Length > limit - o.length
          · rw [if_pos hs] at h3
            refine ⟨.inr (.inr ([], 3)), ?_, h3.symm⟩
            rw [if_neg (by simp), if_neg (by simpa using hf), if_pos (by simpa using hs)]
            rfl
          · rw [if_neg hs] at h3
            have hl := laidT_len hm o
            refine ⟨.inl (laidT x o, ((k + 1 : Nat) : Int)), ?_, ⟨k + 1, rfl, by omega, by simp only; omega, h3⟩, by simp; omega⟩
            rw [if_neg (by simp), if_neg (by simpa using hf), if_neg (by simpa using hs)]
            rcases mayB_facts hm with ⟨h5, h6⟩ | ⟨h5, h6, h7, h8⟩
            · rw [if_pos (by simp [h5]), need_pos (by simp; omega), jn_some, copy_eq _ _ _ 0 0 h5 h6 (.inl rfl) (by omega) (by simp; omega)]
              simp [laidT, h5, h6]
            · rw [if_neg (by simp; omega), jn_some, copy_eq _ _ _ x.Length.toNat x.Far.toNat (by omega) (by omega) (.inr (by omega)) (by omega) (by omega)]
              simp [laidT, show ¬ x.Length = 0 by omega]
    · have : L.drop k = [] := List.drop_eq_nil_of_le (by omega)
      rw [this, expS] at h3
      simp only
      rw [if_neg (by simp; omega)]
      exact ⟨.inr (.inl o), rfl, h3.symm⟩
  · rintro (a | e) h
    · simp only at h; rw [h]; rfl
    · simp only at h; rw [h]; rfl
end Go.AB
