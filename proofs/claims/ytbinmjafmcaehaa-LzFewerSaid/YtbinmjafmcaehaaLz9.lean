/- Lz: what Tokens comes to, its end. -/
import Derived.Test.YtbinmjafmcaehaaLz8
namespace Go.AB
open Go

/-- These tokens are these first bytes. -/
inductive Parsed (b : List UInt8) : List lz_Token → Nat → Prop where
  | nil : Parsed b [] 0
  | lit (ts : List lz_Token) (i : Nat) (h : Parsed b ts i) (hi : i < b.length) (hn : ∀ p, ¬ near b i p) : Parsed b (ts ++ [⟨ix b (i : Int), 0, 0⟩]) (i + 1)
  | mat (ts : List lz_Token) (i L F : Nat) (h : Parsed b ts i) (hi : i < b.length) (h1 : 3 ≤ L) (h2 : 1 ≤ F) (h3 : F ≤ 32768) (h4 : F ≤ i) (h5 : L = rep b i F 258) : Parsed b (ts ++ [⟨0, (L : Int), (F : Int)⟩]) (i + L)

theorem Parsed.le {b : List UInt8} {ts : List lz_Token} {i : Nat} (h : Parsed b ts i) : ts.length ≤ i ∧ i ≤ b.length := by
  induction h with
  | nil => exact ⟨Nat.le_refl _, Nat.zero_le _⟩
  | lit ts i h hi hn ih => simp; omega
  | mat ts i L F h hi h1 h2 h3 h4 h5 ih =>
    have := rep_len b F 258 i (by omega)
    simp; omega

theorem lz_Tokens_eq (b : List UInt8) (hb : b.length ≤ 16777216) : ∃ ts, lz_Tokens b = some ts ∧ Parsed b ts b.length := by
  unfold lz_Tokens
  have hr : room = 140737488355328 := by decide
  rw [if_neg (by simp; omega), need_pos (by omega), need_pos (by omega), need_pos (by omega)]
  refine jn_elim (fun (s : List lz_Token × Int × lz_finder) => ∃ k : Nat, s.2.1 = (k : Int) ∧ k ≤ b.length ∧ Fin3 b k s.2.2 ∧ Parsed b s.1 k) (fun (s : List lz_Token × Int × lz_finder) => b.length - s.2.1.toNat)
    (fun (o : List lz_Token × lz_finder) => Parsed b o.1 b.length) ⟨0, rfl, by omega, ⟨rfl, by simp, by simp, fun i h => by omega, fun k p h => by simp [mfind] at h, fun q h => by omega⟩, .nil⟩ (by simp; omega) ?_ ?_
  · rintro ⟨out, i, f⟩ ⟨k, hk0, hk, hF, hP⟩
    simp only at hk0 hF hP
    subst hk0
    simp only
    by_cases hlt : k < b.length
    · rw [if_pos (by simp; omega), need_pos (by omega)]
      have hple := hP.le
      have key : ∃ (t : lz_Token) (n : Nat), (bnd (lz_finder_best f (k : Int)) fun r13 => if decide (r13.1 > 0) then some (lz_Token.mk 0 r13.1 r13.2) else some (lz_Token.mk (ix b (k : Int)) 0 0)) = some t ∧
          lz_Token_size t = some (n : Int) ∧ 1 ≤ n ∧ k + n ≤ b.length ∧ Parsed b (out ++ [t]) (k + n) := by
        obtain ⟨r, h1, h2⟩ := best_eq hF hlt (by omega)
        rw [h1, bnd_some]
        rcases h2 with ⟨rfl, h2⟩ | ⟨h2, L, F, h3, h4, h5, h6, h7, h8⟩
        · exact ⟨_, 1, by rw [if_neg (by simp)], rfl, by omega, by omega, .lit _ _ hP hlt h2⟩
        · have hrl := rep_len b F 258 k (by omega)
          rw [if_pos (by simp; omega), h3, h4]
          refine ⟨_, L, rfl, ?_, by omega, by omega, .mat _ _ _ _ hP hlt (by omega) h5 h6 h7 h8⟩
          rw [size_eq]
          congr 1
          show max 1 (L : Int) = L
          omega
      obtain ⟨t, n, ht, hn, hn1, hn2, hnP⟩ := key
      rw [ht, jn_some, hn]
      have inner := jn_elim (F := fun (o : Int × lz_finder) => some o) (X := fun (o : Int × lz_finder) => o.1 = ((k + n : Nat) : Int) ∧ Fin3 b (k + n) o.2) (s0 := ((k : Int), (0 : Int), f)) (body := fun ((i20, t21, o22) : Int × Int × lz_finder) =>
              if decide (t21 < (n : Int)) then
                bnd (lz_finder_note o22 i20) fun r28 =>
                some (.inl (w64 (i20 + 1), w64 (t21 + 1), r28))
              else
                some (.inr (i20, o22)))
        (fun (s : Int × Int × lz_finder) => ∃ j : Nat, s.2.1 = (j : Int) ∧ j ≤ n ∧ s.1 = ((k + j : Nat) : Int) ∧ Fin3 b (k + j) s.2.2) (fun (s : Int × Int × lz_finder) => n - s.2.1.toNat) (fun (o : Int × lz_finder) => o.1 = ((k + n : Nat) : Int) ∧ Fin3 b (k + n) o.2)
        ⟨0, rfl, by omega, by simp, hF⟩ (by simp; omega) (by
          rintro ⟨i, t, f'⟩ ⟨j, hj0, hj, hi0, hf'⟩
          simp only at hj0 hi0 hf'
          subst hj0; subst hi0
          simp only
          by_cases hjn : j < n
          · obtain ⟨f2, h1, h2⟩ := note_eq hf' (by omega) (by omega)
            have w1 : w64 (((k + j : Nat) : Int) + 1) = ((k + (j + 1) : Nat) : Int) := by rw [w64_id (by omega) (by omega)]; omega
            have w2 : w64 ((j : Int) + 1) = ((j + 1 : Nat) : Int) := by rw [w64_id (by omega) (by omega)]; omega
            refine ⟨.inl (((k + (j + 1) : Nat) : Int), ((j + 1 : Nat) : Int), f2), ?_, ⟨j + 1, rfl, by omega, rfl, h2⟩, by simp; omega⟩
            rw [if_pos (by simp; omega), h1, bnd_some, w1, w2]
          · have : j = n := by omega
            subst this
            exact ⟨.inr (((k + j : Nat) : Int), f'), by rw [if_neg (by simp)], rfl, hf'⟩) (fun o h => ⟨o, rfl, h⟩)
      obtain ⟨⟨i2, f2⟩, h1, h2, h3⟩ := inner
      rw [jn_id] at h1
      simp only at h2 h3
      subst h2
      refine ⟨.inl (out ++ [t], ((k + n : Nat) : Int), f2), ?_, ⟨k + n, rfl, hn2, h3, hnP⟩, by simp; omega⟩
      rw [bnd_some, h1, jn_some, need_pos (by simp; omega)]
    · have : k = b.length := by omega
      subst this
      rw [if_neg (by simp)]
      exact ⟨.inr (out, f), rfl, hP⟩
  · rintro ⟨out, f⟩ h
    exact ⟨out, rfl, h⟩
end Go.AB
