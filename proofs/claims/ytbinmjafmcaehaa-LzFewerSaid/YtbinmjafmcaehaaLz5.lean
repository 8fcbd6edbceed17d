/- Lz: the plain law of LzExpands. -/
import Derived.Test.YtbinmjafmcaehaaLz4
namespace Go.AB
open Go

theorem lz_Check_eq (L : List lz_Token) (hL : L.length ≤ 140737488355328) : lz_Check L = some (expS 16777216 L []).2 := by
  unfold lz_Check
  refine outer_eq (fun (s : Int × Int) => ∃ (k : Nat) (o : List UInt8), s.2 = (k : Int) ∧ s.1 = o.length ∧ k ≤ L.length ∧ (o.length : Int) ≤ 16777216 ∧ expS 16777216 (L.drop k) o = expS 16777216 L []) (fun (s : Int × Int) => L.length - s.2.toNat)
    (fun (o : Unit ⊕ Int) => match o with | .inl _ => (expS 16777216 L []).2 = 0 | .inr e => (expS 16777216 L []).2 = e) ⟨0, [], rfl, rfl, by omega, by simp, rfl⟩ (by simp; omega) ?_ ?_
  · rintro ⟨n, t⟩ ⟨k, o, h0, h0', h1, h2, h3⟩
    simp only at h0 h0'
    subst h0; subst h0'
    by_cases hk : k < L.length
    · have w1 : w64 ((k : Int) + 1) = ((k + 1 : Nat) : Int) := by rw [w64_id (by omega) (by omega)]; omega
      have w2 : w64 (16777216 - (o.length : Int)) = 16777216 - o.length := w64_id (by omega) (by omega)
      rw [List.drop_eq_getElem_cons hk, expS] at h3
      simp only [ix_nat hk, w1, w2, may_eq, size_eq, bnd_some]
      generalize L[k] = x at h3
      rw [if_pos (by simp; omega), need_pos (by omega)]
      cases hm : mayB x with
      | false =>
        rw [if_pos hm] at h3
        exact ⟨.inr (.inr 2), by simp, by rw [← h3]⟩
      | true =>
        rw [if_neg (by simp [hm])] at h3
        by_cases hf : x.Far > o.length
        · rw [if_pos hf] at h3
          exact ⟨.inr (.inr 14), by simp [hf], by rw [← h3]⟩
        · rw [if_neg hf] at h3
          by_cases hs : max 1 x.Length > 16777216 - o.length
          · rw [if_pos hs] at h3
            refine ⟨.inr (.inr 3), ?_, by rw [← h3]⟩
            rw [if_neg (by simp), if_neg (by simpa using hf), if_pos (by simpa using hs)]
          · rw [if_neg hs] at h3
            have hl := laidT_len hm o
            have w3 : w64 ((o.length : Int) + max 1 x.Length) = ((laidT x o).length : Int) := by rw [hl]; exact w64_id (by omega) (by omega)
            refine ⟨.inl (((laidT x o).length : Int), ((k + 1 : Nat) : Int)), ?_, ⟨k + 1, laidT x o, rfl, rfl, by omega, by omega, h3⟩, by simp; omega⟩
            rw [if_neg (by simp), if_neg (by simpa using hf), if_neg (by simpa using hs), w3]
    · have : L.drop k = [] := List.drop_eq_nil_of_le (by omega)
      rw [this, expS] at h3
      simp only
      rw [if_neg (by simp; omega)]
      exact ⟨.inr (.inl ()), rfl, by rw [← h3]⟩
  · rintro (a | e) h
    · simp only at h; rw [h]; rfl
    · simp only at h; rw [h]; rfl

def conv (t : ref06_Token) : lz_Token := ⟨t.Byte, t.Length, t.Far⟩
theorem law06_of_eq (l : List ref06_Token) (hl : l.length ≤ 1000000) : law06_of l = some (l.map conv) := by
  unfold law06_of
  rw [jn_id]
  have hr : room = 140737488355328 := by decide
  refine iter_eq (fun (s : List lz_Token × Int) => ∃ k : Nat, s.2 = (k : Int) ∧ k ≤ l.length ∧ s.1 = (l.take k).map conv) (fun (s : List lz_Token × Int) => l.length - s.2.toNat) ⟨0, rfl, by omega, rfl⟩ (by simp; omega) ?_
  rintro ⟨o, t⟩ ⟨k, rfl, h1, rfl⟩
  by_cases hk : k < l.length
  · left
    have w1 : w64 ((k : Int) + 1) = ((k + 1 : Nat) : Int) := by rw [w64_id (by omega) (by omega)]; omega
    refine ⟨((l.take (k + 1)).map conv, ((k + 1 : Nat) : Int)), ?_, ⟨k + 1, rfl, by omega, rfl⟩, by simp; omega⟩
    simp only [w1, ix_nat hk]
    rw [if_pos (by simp; omega), need_pos (by omega), need_pos (by omega), need_pos (by omega), need_pos (by simp; omega)]
    rw [List.take_succ_eq_append_getElem hk, List.map_append]
    rfl
  · right
    simp only
    rw [if_neg (by simp; omega), List.take_of_length_le (by omega)]

theorem ref06_Expand_eq (l : List ref06_Token) (limit : Int) (hL : l.length ≤ 140737488355328) : ref06_Expand l limit = some (expT limit (l.map conv)) := by
  unfold ref06_Expand expT
  by_cases hc : limit < 0 ∨ limit > 16777216
  · rw [if_pos hc, if_pos (by simpa using hc)]
  rw [if_neg hc, if_neg (by simpa using hc)]
  have hr : room = 140737488355328 := by decide
  refine outer_eq (fun (s : List UInt8 × Int) => ∃ k : Nat, s.2 = (k : Int) ∧ k ≤ l.length ∧ (s.1.length : Int) ≤ limit ∧ expS limit ((l.drop k).map conv) s.1 = expS limit (l.map conv) []) (fun (s : List UInt8 × Int) => l.length - s.2.toNat)
    (fun o => match o with | .inl a => expS limit (l.map conv) [] = (a, 0) | .inr e => expS limit (l.map conv) [] = e) ⟨0, rfl, by omega, by simp; omega, rfl⟩ (by simp; omega) ?_ ?_
  · rintro ⟨o, t⟩ ⟨k, rfl, h1, h2, h3⟩
    simp only at h2 h3
    by_cases hk : k < l.length
    · have w1 : w64 ((k : Int) + 1) = ((k + 1 : Nat) : Int) := by rw [w64_id (by omega) (by omega)]; omega
      have w2 : w64 (limit - (o.length : Int)) = limit - o.length := w64_id (by omega) (by omega)
      rw [List.drop_eq_getElem_cons hk, List.map_cons, expS] at h3
      simp only [ix_nat hk, w1, w2]
      generalize l[k] = x at h3
      rw [if_pos (by simp; omega), need_pos (by omega)]
      have hmay : ((!((x.Length == 0) && (x.Far == 0))) && (!((((((x.Byte.toNat : Int) == 0) && (decide (x.Length ≥ 3))) && (decide (x.Length ≤ 258))) && (decide (x.Far ≥ 1))) && (decide (x.Far ≤ 32768))))) = !(mayB (conv x)) := by
        unfold mayB conv
        by_cases h0 : x.Length = 0
        · simp [h0]
        · simp [h0]
      rw [hmay]
      cases hm : mayB (conv x) with
      | false =>
        rw [if_pos hm] at h3
        exact ⟨.inr (.inr ([], 2)), by simp, h3.symm⟩
      | true =>
        rw [if_neg (by simp [hm])] at h3
        have hfar : (conv x).Far = x.Far := rfl
        have hlen : (conv x).Length = x.Length := rfl
        have hbyte : (conv x).Byte = x.Byte := rfl
        have hl := laidT_len hm o
        have hfac := mayB_facts hm
        rw [hfar, hlen] at h3 hfac
        rw [hlen] at hl
        by_cases hf : x.Far > o.length
        · rw [if_pos hf] at h3
          exact ⟨.inr (.inr ([], 14)), by simp [hf], h3.symm⟩
        · rw [if_neg hf] at h3
          have hcond : (((((x.Length == 0) && (x.Far == 0)) && (decide ((o.length : Int) ≥ limit))) || (decide (x.Length > limit - o.length))) = true) ↔ max 1 x.Length > limit - o.length := by
            rcases hfac with ⟨h5, h6⟩ | ⟨h5, h6, h7, h8⟩
            · simp [h5, h6]; omega
            · have : ¬ x.Length = 0 := by omega
              simp [this]; omega
          by_cases hs : max 1 x.Length > limit - o.length
          · rw [if_pos hs] at h3
            refine ⟨.inr (.inr ([], 3)), ?_, h3.symm⟩
            rw [if_neg (by simp), if_neg (by simpa using hf), if_pos (hcond.2 hs)]
            rfl
          · rw [if_neg hs] at h3
            refine ⟨.inl (laidT (conv x) o, ((k + 1 : Nat) : Int)), ?_, ⟨k + 1, rfl, by omega, by simp only; omega, h3⟩, by simp; omega⟩
            rw [if_neg (by simp), if_neg (by simpa using hf), if_neg (fun h => hs (hcond.1 h))]
            rcases hfac with ⟨h5, h6⟩ | ⟨h5, h6, h7, h8⟩
            · rw [if_pos (by simp [h5, h6]), need_pos (by simp; omega), jn_some, copy_eq _ _ _ 0 0 h5 h6 (.inl rfl) (by omega) (by simp; omega)]
              simp [laidT, conv, h5, h6]
            · rw [if_neg (by simp; omega), jn_some, copy_eq _ _ _ x.Length.toNat x.Far.toNat (by omega) (by omega) (.inr (by omega)) (by omega) (by omega)]
              simp [laidT, conv, show ¬ x.Length = 0 by omega]
    · have : l.drop k = [] := List.drop_eq_nil_of_le (by omega)
      rw [this, List.map_nil, expS] at h3
      simp only
      rw [if_neg (by simp; omega)]
      exact ⟨.inr (.inl o), rfl, h3.symm⟩
  · rintro (a | e) h
    · simp only at h; rw [h]; rfl
    · simp only at h; rw [h]; rfl

theorem law06_LzExpands_true (l : List ref06_Token) (most : Int) : law06_LzExpands l most = some true := by
  unfold law06_LzExpands
  by_cases h : (l.length : Int) > 100
  · rw [if_pos (by simpa using h), law06_works_true]; rfl
  · rw [if_neg (by simpa using h), law06_of_eq l (by omega), bnd_some, lz_Expand_eq _ _ (by simp; omega), bnd_some, ref06_Expand_eq _ _ (by omega), bnd_some, ref06_Expand_eq _ _ (by omega), bnd_some]
    have he : expT 16777216 (l.map conv) = expS 16777216 (l.map conv) [] := by
      unfold expT; rw [if_neg (by omega)]
    simp only [beq_self_eq_true, Bool.and_self, whenB_t, bnd_some, he]
    rw [lz_Check_eq _ (by simp; omega), law06_works_true]
    simp
end Go.AB
