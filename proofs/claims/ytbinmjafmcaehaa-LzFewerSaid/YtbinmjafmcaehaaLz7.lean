/- Lz: what Tokens comes to. -/
import Derived.Test.YtbinmjafmcaehaaLz4
namespace Go.AB
open Go

theorem jn_elim {S O R : Type} {body : S → Option (S ⊕ O)} {s0 : S} {F : O → Option R} {X : R → Prop} (I : S → Prop) (μ : S → Nat) (Post : O → Prop) (h0 : I s0) (hμ : μ s0 < 18446744073709551616)
    (step : ∀ s, I s → ∃ x, body s = some x ∧ (match x with | .inl t => I t ∧ μ t < μ s | .inr o => Post o)) (fin : ∀ o, Post o → ∃ r, F o = some r ∧ X r) : ∃ r, jn (iter body s0) F = some r ∧ X r := by
  obtain ⟨o, h1, h2⟩ := iter_inv (body := body) I μ Post h0 hμ step
  rw [h1, jn_some]; exact fin o h2
theorem ix_getD {α : Type} [Enc α] (l : List α) (k : Nat) : ix l (k : Int) = l.getD k Enc.zero := by unfold ix; simp
def tri (b : List UInt8) (p : Nat) : arr3_UInt8 := ⟨ix b (p : Nat), ix b ((p + 1 : Nat) : Int), ix b ((p + 2 : Nat) : Int)⟩
def near (b : List UInt8) (i p : Nat) : Prop := p < i ∧ i - p ≤ 32768 ∧ i + 3 ≤ b.length ∧ tri b p = tri b i

theorem rep3 {b : List UInt8} {i P : Nat} (h1 : P < i) (h2 : i + 3 ≤ b.length) (h3 : tri b P = tri b i) : 3 ≤ rep b i (i - P) 258 := by
  have e : ∀ j, j < 3 → b[i + j]? = b[P + j]? := by
    intro j hj
    unfold tri at h3
    injection h3 with a0 a1 a2
    rw [List.getElem?_eq_getElem (by omega), List.getElem?_eq_getElem (by omega)]
    rw [ix_nat (by omega), ix_nat (by omega)] at a0 a1 a2
    match j, hj with
    | 0, _ => simp [a0]
    | 1, _ => simp [a1]
    | 2, _ => simp [a2]
  have st : ∀ j m, j < 3 → rep b (i + j) (i - P) (m + 1) = rep b (i + j + 1) (i - P) m + 1 := by
    intro j m hj
    rw [rep, if_pos ⟨by omega, by rw [e j hj]; congr 1; omega⟩]
  have s0 := st 0 257 (by omega)
  have s1 := st 1 256 (by omega)
  have s2 := st 2 255 (by omega)
  simp only [Nat.add_zero] at s0
  rw [s0, show i + 1 = i + 1 from rfl, s1, show i + 1 + 1 = i + 2 from rfl, s2]
  omega

structure Fin3 (b : List UInt8) (cur : Nat) (f : lz_finder) : Prop where
  hb : f.b_ = b
  n : f.prev_.n = b.length
  l : f.prev_.l.length = b.length
  pv : ∀ i : Nat, i < cur → -1 ≤ ix f.prev_.l (i : Int) ∧ ix f.prev_.l (i : Int) < i
  la : ∀ k p, mfind f.last_ k = some p → ∃ q : Nat, p = (q : Int) ∧ q < cur ∧ q + 3 ≤ b.length ∧ tri b q = k
  al : ∀ q : Nat, q < cur → q + 3 ≤ b.length → ∃ p : Nat, mfind f.last_ (tri b q) = some (p : Int) ∧ q ≤ p

theorem at_eq {b : List UInt8} {cur i : Nat} {f : lz_finder} (h : Fin3 b cur f) (hi : i < b.length) (hL : b.length ≤ 140737488355328) :
    lz_finder_at f (i : Int) = some (if i + 3 ≤ b.length then (tri b i, true) else (⟨0, 0, 0⟩, false)) := by
  unfold lz_finder_at
  have w3 : w64 ((i : Int) + 3) = ((i + 3 : Nat) : Int) := by rw [w64_id (by omega) (by omega)]; omega
  have w1 : w64 ((i : Int) + 1) = ((i + 1 : Nat) : Int) := by rw [w64_id (by omega) (by omega)]; omega
  have w2 : w64 ((i : Int) + 2) = ((i + 2 : Nat) : Int) := by rw [w64_id (by omega) (by omega)]; omega
  simp only [w1, w2, w3, h.hb]
  by_cases hc : i + 3 ≤ b.length
  · rw [if_neg (by simp; omega), need_pos (by omega), need_pos (by omega), need_pos (by omega), if_pos hc]; rfl
  · rw [if_pos (by simp; omega), if_neg hc]

def good (b : List UInt8) (i : Nat) (len far : Int) : Prop := ∃ L F : Nat, len = (L : Int) ∧ far = (F : Int) ∧ 1 ≤ F ∧ F ≤ 32768 ∧ F ≤ i ∧ L = rep b i F 258

theorem best_eq {b : List UInt8} {i : Nat} {f : lz_finder} (h : Fin3 b i f) (hi : i < b.length) (hL : b.length ≤ 140737488355328) :
    ∃ r, lz_finder_best f (i : Int) = some r ∧ ((r = (0, 0) ∧ ∀ p, ¬ near b i p) ∨ (3 ≤ r.1 ∧ good b i r.1 r.2)) := by
  unfold lz_finder_best
  rw [at_eq h hi hL, bnd_some]
  have hr : room = 140737488355328 := by decide
  by_cases hc : i + 3 ≤ b.length
  · rw [if_pos hc]
    cases hm : mfind f.last_ (tri b i) with
    | none =>
      refine ⟨_, by rw [if_pos (by simp [mhas, hm])], .inl ⟨rfl, fun p hp => ?_⟩⟩
      obtain ⟨q, hq, _⟩ := h.al p hp.1 (by have := hp.1; omega)
      rw [hp.2.2.2, hm] at hq
      cases hq
    | some p0 =>
      obtain ⟨q0, rfl, hq0, hq1, hq2⟩ := h.la _ _ hm
      rw [if_neg (by simp [mhas, hm])]
      have hg : mget 0 f.last_ (tri b i) = (q0 : Int) := by simp [mget, hm]
      simp only [hg]
      refine jn_elim
        (fun (s : Int × Int × Int × Int) => ∃ m : Nat, s.2.2.2 = (m : Int) ∧ m ≤ 32 ∧ -1 ≤ s.2.2.1 ∧ s.2.2.1 < i ∧ ((s.1 = 0 ∧ s.2.1 = 0) ∨ good b i s.1 s.2.1) ∧ (((∃ p, near b i p) → 3 ≤ s.1) ∨ (s.1 = 0 ∧ s.2.2.1 = (q0 : Int))))
        (fun (s : Int × Int × Int × Int) => 33 - s.2.2.2.toNat)
        (fun (o : Int × Int) => ((o.1 = 0 ∧ o.2 = 0) ∨ good b i o.1 o.2) ∧ ((∃ p, near b i p) → 3 ≤ o.1)) ⟨0, rfl, by omega, by simp only; omega, by simp only; omega, .inl ⟨rfl, rfl⟩, .inr ⟨rfl, rfl⟩⟩ (by simp) ?_ ?_
      rotate_left
      · rintro ⟨len, far⟩ ⟨h2, h3⟩
        by_cases hl : len < 3
        · refine ⟨_, by rw [if_pos (by simpa using hl)], .inl ⟨rfl, fun p hp => ?_⟩⟩
          have := h3 ⟨p, hp⟩
          simp only at this; omega
        · refine ⟨_, by rw [if_neg (by simpa using hl)], .inr ⟨by simp only; omega, ?_⟩⟩
          rcases h2 with ⟨h2, _⟩ | h2
          · simp only at h2; omega
          · exact h2
      · rintro ⟨len, far, p, n⟩ ⟨m, hm0, h1, h2, h3, h4, h5⟩
        simp only at hm0 h2 h3 h4 h5
        subst hm0
        have w1 : w64 ((i : Int) - p) = (i : Int) - p := w64_id (by omega) (by omega)
        have w2 : w64 ((m : Int) + 1) = ((m + 1 : Nat) : Int) := by rw [w64_id (by omega) (by omega)]; omega
        simp only [w1, w2, h.hb]
        by_cases hcond : 0 ≤ p ∧ (i : Int) - p ≤ 32768
        · rw [if_pos (by simpa using hcond)]
          obtain ⟨P, rfl⟩ := Int.eq_ofNat_of_zero_le hcond.1
          have hF : (i : Int) - (P : Int) = ((i - P : Nat) : Int) := by omega
          rw [lz_Match_eq _ _ _ _ hL (by omega), bnd_some]
          have hM : matchS b (i : Int) ((i : Int) - (P : Int)) 258 = (rep b i (i - P) 258 : Nat) := by
            unfold matchS
            rw [if_neg (by omega), hF]; rfl
          rw [hM]
          have key : ∃ len' far' : Int, (if decide (((rep b i (i - P) 258 : Nat) : Int) > len) then some (((rep b i (i - P) 258 : Nat) : Int), (i : Int) - (P : Int)) else some (len, far)) = some (len', far') ∧
              ((len' = 0 ∧ far' = 0) ∨ good b i len' far') ∧ ((∃ p, near b i p) → 3 ≤ len') := by
            by_cases hb : ((rep b i (i - P) 258 : Nat) : Int) > len
            · refine ⟨_, _, by rw [if_pos (by simpa using hb)], .inr ⟨rep b i (i - P) 258, i - P, rfl, hF, by omega, by omega, by omega, rfl⟩, fun hn => ?_⟩
              rcases h5 with h5 | ⟨h5, h6⟩
              · have := h5 hn; omega
              · have : P = q0 := by omega
                subst this
                have := rep3 (b := b) hq0 hc hq2
                omega
            · refine ⟨_, _, by rw [if_neg (by simpa using hb)], h4, fun hn => ?_⟩
              rcases h5 with h5 | ⟨h5, h6⟩
              · exact h5 hn
              · have : P = q0 := by omega
                subst this
                have := rep3 (b := b) hq0 hc hq2
                omega
          obtain ⟨len', far', hk, hk1, hk2⟩ := key
          rw [hk, jn_some]
          simp only
          by_cases hx : m = 32 ∨ len' = 258
          · exact ⟨.inr (len', far'), by rw [if_pos (by simp; omega)], hk1, hk2⟩
          · have hpv := h.pv P (by omega)
            refine ⟨.inl (len', far', ix f.prev_.l (P : Int), ((m + 1 : Nat) : Int)), ?_, ⟨m + 1, rfl, by omega, by simp only; omega, by simp only; omega, hk1, .inl hk2⟩, by simp; omega⟩
            rw [if_neg (by simp; omega), need_pos (by rw [h.n]; omega), need_pos (by rw [flat_len, h.l]; show _ ≤ b.length * 1; simp; omega)]
        · rw [if_neg (by simpa using hcond)]
          refine ⟨.inr (len, far), rfl, h4, fun hn => ?_⟩
          rcases h5 with h5 | ⟨h5, h6⟩
          · exact h5 hn
          · obtain ⟨q, hq⟩ := hn
            obtain ⟨p', hp', hp''⟩ := h.al q hq.1 (by have := hq.1; omega)
            rw [hq.2.2.2, hm] at hp'
            have := hq.2.1
            have := hq.1
            injection hp' with hp'
            omega
  · rw [if_neg hc]
    exact ⟨_, by rw [if_pos (by simp)], .inl ⟨rfl, fun p hp => hc hp.2.2.1⟩⟩
end Go.AB
