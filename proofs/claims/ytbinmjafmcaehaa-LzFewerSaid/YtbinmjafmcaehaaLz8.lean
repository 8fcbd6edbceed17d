/- Lz: what Tokens comes to, continued. -/
import Derived.Test.YtbinmjafmcaehaaLz7
namespace Go.AB
open Go

theorem mfind_mput {κ ν : Type} [DecidableEq κ] (k : κ) (v : ν) : ∀ (m : List (κ × ν)) (k' : κ), mfind (mput m k v) k' = if k' = k then some v else mfind m k'
  | [], k' => by
    by_cases h : k' = k
    · simp [mput, mfind, h]
    · have e := beq_eq_false_iff_ne.2 h
      simp [mput, mfind, h, e]
  | x :: r, k' => by
    have ih := mfind_mput k v r k'
    by_cases hx : k = x.1
    · by_cases h : k' = k
      · simp [mput, mfind, ← hx, h]
      · have e := beq_eq_false_iff_ne.2 h
        simp [mput, mfind, ← hx, h, e]
    · have ex := beq_eq_false_iff_ne.2 hx
      have em : mput (x :: r) k v = x :: mput r k v := by simp [mput, ex]
      rw [em, mfind, mfind, ih]
      by_cases h : k' = x.1
      · have : ¬ k' = k := fun e => hx (e ▸ h)
        have e1 : (k' == x.1) = true := beq_iff_eq.2 h
        rw [if_neg this, if_neg this, e1]
      · have e1 := beq_eq_false_iff_ne.2 h
        rw [e1]; rfl

theorem updL_len {α : Type} (l : List α) (i : Nat) (x : α) (h : i < l.length) : (updL l (i : Int) x).length = l.length := by
  unfold updL; simp; omega
theorem ix_updL {α : Type} [Enc α] (l : List α) (i j : Nat) (x : α) (h : i < l.length) : ix (updL l (i : Int) x) (j : Int) = if j = i then x else ix l (j : Int) := by
  rw [ix_getD, ix_getD, List.getD_eq_getElem?_getD, List.getD_eq_getElem?_getD]
  unfold updL
  rw [Int.toNat_natCast]
  by_cases hj : j = i
  · subst hj
    rw [if_pos rfl, List.append_assoc, List.getElem?_append_right (by simp; omega)]
    simp [show j - min j l.length = 0 by omega]
  · rw [if_neg hj]
    rcases Nat.lt_or_ge j i with h1 | h1
    · rw [List.append_assoc, List.getElem?_append_left (by simp; omega), List.getElem?_take, if_pos h1]
    · rw [List.getElem?_append_right (by simp; omega), List.getElem?_drop]
      congr 2
      simp; omega

theorem note_eq {b : List UInt8} {i : Nat} {f : lz_finder} (h : Fin3 b i f) (hi : i < b.length) (hL : b.length ≤ 140737488355328) : ∃ f', lz_finder_note f (i : Int) = some f' ∧ Fin3 b (i + 1) f' := by
  unfold lz_finder_note
  rw [at_eq h hi hL, bnd_some]
  have hil : i < f.prev_.l.length := by rw [h.l]; exact hi
  have hfl : ∀ l : List Int, (flat l).length = l.length := fun l => by rw [flat_len]; exact Nat.mul_one _
  rw [need_pos (by rw [h.n]; omega), need_pos (by rw [hfl, Int.toNat_natCast]; omega)]
  by_cases hc : i + 3 ≤ b.length
  · rw [if_pos hc]
    have la' : ∀ k p, mfind (mput f.last_ (tri b i) (i : Int)) k = some p → ∃ q : Nat, p = (q : Int) ∧ q < i + 1 ∧ q + 3 ≤ b.length ∧ tri b q = k := by
      intro k p hp
      rw [mfind_mput] at hp
      by_cases hk : k = tri b i
      · rw [if_pos hk] at hp
        injection hp with hp
        exact ⟨i, hp.symm, by omega, hc, hk.symm⟩
      · rw [if_neg hk] at hp
        obtain ⟨q, h1, h2, h3⟩ := h.la k p hp
        exact ⟨q, h1, by omega, h3⟩
    have al' : ∀ q : Nat, q < i + 1 → q + 3 ≤ b.length → ∃ p : Nat, mfind (mput f.last_ (tri b i) (i : Int)) (tri b q) = some (p : Int) ∧ q ≤ p := by
      intro q hq hq3
      rw [mfind_mput]
      by_cases hk : tri b q = tri b i
      · rw [if_pos hk]; exact ⟨i, rfl, by omega⟩
      · rw [if_neg hk]
        have : q ≠ i := fun e => hk (by rw [e])
        exact h.al q (by omega) hq3
    cases hm : mfind f.last_ (tri b i) with
    | none =>
      refine ⟨⟨f.b_, mput f.last_ (tri b i) (i : Int), ⟨f.prev_.n, updL f.prev_.l (i : Int) (-1)⟩⟩, by simp only [mhas, hm, Option.isSome_none, Bool.not_true, Bool.false_eq_true, if_false, jn_some], ⟨h.hb, h.n, ?_, ?_, la', al'⟩⟩
      · simp only; rw [updL_len _ _ _ hil]; exact h.l
      · intro j hj
        rw [ix_updL _ _ _ _ hil]
        by_cases e : j = i
        · rw [if_pos e]; omega
        · rw [if_neg e]; exact h.pv j (by omega)
    | some p0 =>
      obtain ⟨q0, rfl, hq0, hq1, hq2⟩ := h.la _ _ hm
      have hil' : i < (updL f.prev_.l (i : Int) (-1)).length := by rw [updL_len _ _ _ hil]; exact hil
      refine ⟨⟨f.b_, mput f.last_ (tri b i) (i : Int), ⟨f.prev_.n, updL (updL f.prev_.l (i : Int) (-1)) (i : Int) (q0 : Int)⟩⟩, by
        simp only [mhas, mget, hm, Option.isSome_some, Option.getD_some, Bool.not_true, Bool.false_eq_true, if_false, if_true]
        rw [need_pos (by rw [h.n]; omega), need_pos (by rw [hfl, Int.toNat_natCast]; omega), jn_some], ⟨h.hb, h.n, ?_, ?_, la', al'⟩⟩
      · simp only; rw [updL_len _ _ _ hil', updL_len _ _ _ hil]; exact h.l
      · intro j hj
        simp only
        rw [ix_updL _ _ _ _ hil', ix_updL _ _ _ _ hil]
        by_cases e : j = i
        · rw [if_pos e]; omega
        · rw [if_neg e, if_neg e]; exact h.pv j (by omega)
  · rw [if_neg hc]
    refine ⟨⟨f.b_, f.last_, ⟨f.prev_.n, updL f.prev_.l (i : Int) (-1)⟩⟩, by simp only [Bool.not_false, if_true], ⟨h.hb, h.n, ?_, ?_, ?_, ?_⟩⟩
    · simp only; rw [updL_len _ _ _ hil]; exact h.l
    · intro j hj
      simp only
      rw [ix_updL _ _ _ _ hil]
      by_cases e : j = i
      · rw [if_pos e]; omega
      · rw [if_neg e]; exact h.pv j (by omega)
    · intro k p hp
      obtain ⟨q, h1, h2, h3⟩ := h.la k p hp
      exact ⟨q, h1, by omega, h3⟩
    · intro q hq hq3
      exact h.al q (by omega) hq3
end Go.AB
