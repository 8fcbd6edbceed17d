/- Lz: the plain laws of LzBack and LzFewer. -/
import Derived.Test.YtbinmjafmcaehaaLz9
import Derived.Test.YtbinmjafmcaehaaLz5
namespace Go.AB
open Go

theorem expS_append (limit : Int) (us : List lz_Token) : ∀ (ts : List lz_Token) (o o' : List UInt8), expS limit ts o = (o', 0) → expS limit (ts ++ us) o = expS limit us o'
  | [], o, o', h => by
    rw [expS] at h
    injection h with h _
    rw [List.nil_append, h]
  | t :: ts, o, o', h => by
    rw [expS] at h
    rw [List.cons_append, expS]
    by_cases h1 : mayB t = false
    · rw [if_pos h1] at h; injection h with _ h; cases h
    · rw [if_neg h1] at h ⊢
      by_cases h2 : t.Far > o.length
      · rw [if_pos h2] at h; injection h with _ h; cases h
      · rw [if_neg h2] at h ⊢
        by_cases h3 : max 1 t.Length > limit - o.length
        · rw [if_pos h3] at h; injection h with _ h; cases h
        · rw [if_neg h3] at h ⊢
          exact expS_append limit us ts _ _ h

theorem take_snoc (b : List UInt8) (i : Nat) (h : i < b.length) : b.take i ++ [b[i]] = b.take (i + 1) := (List.take_succ_eq_append_getElem h).symm
theorem copy_rep (b : List UInt8) (F : Nat) (hF : 1 ≤ F) : ∀ (n i m : Nat), F ≤ i → i ≤ b.length → n ≤ rep b i F m → copyS F n (b.take i) = b.take (i + n)
  | 0, _, _, _, _, _ => rfl
  | n + 1, i, 0, _, _, h => by rw [rep] at h; omega
  | n + 1, i, m + 1, hi, hib, h => by
    rw [rep] at h
    by_cases hc : i < b.length ∧ b[i]? = b[i - F]?
    · rw [if_pos hc] at h
      have ih := copy_rep b F hF n (i + 1) m (by omega) (by omega) (by omega)
      rw [copyS]
      have hl : (b.take i).length = i := by simp; omega
      have e : ix (b.take i) (((b.take i).length : Int) - (F : Int)) = b[i]'hc.1 := by
        rw [hl, show (i : Int) - (F : Int) = ((i - F : Nat) : Int) by omega]
        apply ix_get
        rw [List.getElem?_take, if_pos (by omega)]
        exact hc.2.symm.trans (List.getElem?_eq_getElem hc.1)
      rw [e, take_snoc b i hc.1, ih]
      congr 1; omega
    · rw [if_neg hc] at h; omega

theorem parsed_exp {b : List UInt8} {ts : List lz_Token} {i : Nat} (limit : Int) (hL : (b.length : Int) ≤ limit) (h : Parsed b ts i) : expS limit ts [] = (b.take i, 0) := by
  induction h with
  | nil => rfl
  | lit ts i h hi hn ih =>
    rw [expS_append _ _ _ _ _ ih, expS]
    have hl : (b.take i).length = i := by simp; omega
    rw [if_neg (by simp [mayB]), if_neg (by simp only; omega), if_neg (by simp only [hl]; omega), expS]
    simp only [laidT, if_true, copyS, Int.toNat_zero]
    rw [ix_nat hi, take_snoc b i hi]
  | mat ts i L F h hi h1 h2 h3 h4 h5 ih =>
    rw [expS_append _ _ _ _ _ ih, expS]
    have hl : (b.take i).length = i := by simp; omega
    have hr1 := rep_le b F 258 i
    have hr2 := rep_len b F 258 i (by omega)
    have hL0 : ¬ ((L : Int) = 0) := by omega
    have hm : mayB ⟨0, (L : Int), (F : Int)⟩ = true := by
      unfold mayB
      rw [if_neg (by simpa using hL0)]
      simp only [Bool.and_eq_true, decide_eq_true_eq]
      refine ⟨⟨⟨⟨rfl, ?_⟩, ?_⟩, ?_⟩, ?_⟩ <;> omega
    rw [if_neg (by rw [hm]; simp), if_neg (by simp only [hl]; omega), if_neg (by simp only [hl]; omega), expS]
    simp only [laidT, Int.toNat_natCast]
    rw [if_neg hL0, copy_rep b F h2 L i 258 h4 (by omega) (by omega)]

def bconv (t : lz_Token) : ref06_Token := ⟨t.Byte, t.Length, t.Far⟩
theorem law06_back_eq (l : List lz_Token) (hl : l.length ≤ 1000000) : law06_back l = some (l.map bconv) := by
  unfold law06_back
  rw [jn_id]
  have hr : room = 140737488355328 := by decide
  refine iter_eq (fun (s : List ref06_Token × Int) => ∃ k : Nat, s.2 = (k : Int) ∧ k ≤ l.length ∧ s.1 = (l.take k).map bconv) (fun (s : List ref06_Token × Int) => l.length - s.2.toNat) ⟨0, rfl, by omega, rfl⟩ (by simp; omega) ?_
  rintro ⟨o, t⟩ ⟨k, rfl, h1, rfl⟩
  by_cases hk : k < l.length
  · left
    have w1 : w64 ((k : Int) + 1) = ((k + 1 : Nat) : Int) := by rw [w64_id (by omega) (by omega)]; omega
    refine ⟨((l.take (k + 1)).map bconv, ((k + 1 : Nat) : Int)), ?_, ⟨k + 1, rfl, by omega, rfl⟩, by simp; omega⟩
    simp only [w1, ix_nat hk]
    rw [if_pos (by simp; omega), need_pos (by omega), need_pos (by omega), need_pos (by omega), need_pos (by simp; omega)]
    rw [List.take_succ_eq_append_getElem hk, List.map_append]
    rfl
  · right
    simp only
    rw [if_neg (by simp; omega), List.take_of_length_le (by omega)]
theorem conv_bconv (l : List lz_Token) : (l.map bconv).map conv = l := by
  rw [List.map_map]
  exact List.map_id'' (fun _ => rfl) l

theorem law06_LzBack_true (b : List UInt8) : law06_LzBack b = some true := by
  unfold law06_LzBack
  by_cases h : (b.length : Int) > 3000
  · rw [if_pos (by simpa using h), law06_works_true]; rfl
  · rw [if_neg (by simpa using h)]
    obtain ⟨ts, h1, h2⟩ := lz_Tokens_eq b (by omega)
    have hle := h2.le
    have hn : decide ((ts.length : Int) > (b.length : Int)) = false := by simp; omega
    have e1 := parsed_exp 16777216 (by omega) h2
    have e2 := parsed_exp (b.length : Int) (Int.le_refl _) h2
    rw [List.take_length] at e1 e2
    have e3 : expT (b.length : Int) ts = (b, 0) := by unfold expT; rw [if_neg (by omega), e2]
    rw [h1, bnd_some, lz_Check_eq _ (by omega), e1]
    simp only [hn, Bool.not_false, whenB_t, bnd_some, Bool.false_or]
    rw [if_neg (by simp), law06_back_eq _ (by omega), bnd_some, ref06_Expand_eq _ _ (by simp; omega), conv_bconv, bnd_some, lz_Expand_eq _ _ (by omega), bnd_some, e3, law06_works_true]
    simp

theorem parsed_fewer {b : List UInt8} {ts : List lz_Token} {i : Nat} (h : Parsed b ts i) : ts.length < i ∨ ∀ j, j < i → ∀ p, ¬ near b j p := by
  induction h with
  | nil => exact .inr fun j h => by omega
  | lit ts i h hi hn ih =>
    rcases ih with ih | ih
    · left; simp; omega
    · right
      intro j hj p
      by_cases e : j = i
      · rw [e]; exact hn p
      · exact ih j (by omega) p
  | mat ts i L F h hi h1 h2 h3 h4 h5 ih =>
    have := h.le
    left; simp; omega
theorem tokens_fewer {b : List UInt8} {ts : List lz_Token} (h : Parsed b ts b.length) {j p : Nat} (hn : near b j p) : ts.length < b.length := by
  rcases parsed_fewer h with h | h
  · exact h
  · exact absurd hn (h j (by have := hn.2.2.1; omega) p)

theorem near_run (a b : List UInt8) (x : UInt8) : near ((a ++ [x, x, x, x, x, x]) ++ b) (a.length + 1) a.length := by
  have e : ∀ r, r < 6 → ix ((a ++ [x, x, x, x, x, x]) ++ b) ((a.length + r : Nat) : Int) = x := by
    intro r hr
    apply ix_get
    rw [List.append_assoc, List.getElem?_append_right (by omega), show a.length + r - a.length = r by omega]
    match r, hr with
    | 0, _ => rfl
    | 1, _ => rfl
    | 2, _ => rfl
    | 3, _ => rfl
    | 4, _ => rfl
    | 5, _ => rfl
  refine ⟨by omega, by omega, by simp; omega, ?_⟩
  unfold tri
  have e0 := e 0 (by omega); have e1 := e 1 (by omega); have e2 := e 2 (by omega); have e3 := e 3 (by omega)
  rw [Nat.add_zero] at e0
  rw [e0, e1, e2, show a.length + 1 + 2 = a.length + 3 from rfl, e3]
theorem near_twice (a : List UInt8) (h : 3 ≤ a.length) (h' : a.length ≤ 1000) : near (a ++ a) a.length 0 := by
  have e : ∀ r, r < 3 → ix (a ++ a) ((a.length + r : Nat) : Int) = ix (a ++ a) ((r : Nat) : Int) := by
    intro r hr
    rw [ix_nat (by simp; omega), ix_nat (by simp; omega), List.getElem_append_right (by omega), List.getElem_append_left (by omega)]
    congr 1; omega
  refine ⟨by omega, by omega, by simp; omega, ?_⟩
  unfold tri
  have e0 := e 0 (by omega); have e1 := e 1 (by omega); have e2 := e 2 (by omega)
  rw [Nat.add_zero] at e0
  rw [e0, e1, e2]

theorem law06_LzFewer_true (a b : List UInt8) (x : UInt8) : law06_LzFewer a b x = some true := by
  unfold law06_LzFewer
  have hr : room = 140737488355328 := by decide
  by_cases h : (a.length : Int) > 1000 ∨ (b.length : Int) > 1000
  · rw [if_pos (by simpa using h), law06_works_true]; rfl
  · rw [if_neg (by simpa using h)]
    have ha : a.length ≤ 1000 := by omega
    have hb : b.length ≤ 1000 := by omega
    rw [need_pos (by simp; omega), need_pos (by simp; omega), need_pos (by simp; omega)]
    obtain ⟨ts, h1, h2⟩ := lz_Tokens_eq ((a ++ [x, x, x, x, x, x]) ++ b) (by simp; omega)
    have hf := tokens_fewer h2 (near_run a b x)
    rw [h1, bnd_some, if_neg (by simp only [decide_eq_true_eq]; omega), need_pos (by simp; omega), need_pos (by omega)]
    by_cases h6 : (a.length : Int) < 6
    · simp only [h6, decide_true, Bool.not_true, whenB_f, bnd_some, Bool.true_or, whenB_t, law06_works_true, Bool.and_self]
    · obtain ⟨us, k1, k2⟩ := lz_Tokens_eq (a ++ a) (by simp; omega)
      have kf := tokens_fewer k2 (near_twice a (by omega) ha)
      have kd : decide ((us.length : Int) < ((a ++ a).length : Int)) = true := by simp only [decide_eq_true_eq]; omega
      simp only [h6, decide_false, Bool.not_false, whenB_t, k1, bnd_some, Bool.false_or, kd, law06_works_true, Bool.and_self]
end Go.AB
