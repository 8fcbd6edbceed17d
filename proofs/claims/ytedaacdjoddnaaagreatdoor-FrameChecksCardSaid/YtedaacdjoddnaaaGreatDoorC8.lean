/- A part of the proof: Kp, Kq, Kr. -/
import Derived.Test.YtedaacdjoddnaaaGreatDoorC7
set_option linter.unusedSimpArgs false
set_option linter.unusedVariables false
section
set_option linter.unusedSimpArgs false
namespace Go.AB.Kp
open Go Go.AB
def W : Nat → api_Value → Prop
 | 0, _ => False
 | n + 1, v => v.L.length ≤ n ∧ ∀ x ∈ v.L, W n x
theorem W_mono : ∀ (n m : Nat) (v : api_Value), n ≤ m → W n v → W m v
 | 0, _, _, _, h => h.elim
 | n + 1, 0, _, hm, _ => by omega
 | n + 1, m + 1, v, hm, h => ⟨by have := h.1; omega, fun x hx => W_mono n m x (by omega) (h.2 x hx)⟩
theorem few (fuel : Nat) : ∀ (v : api_Value) (left : Int), 0 ≤ left → left < fuel → left ≤ 4611686018427387904 → ∃ r, ref11_Few fuel v left = some r ∧ -1 ≤ r ∧ r < left ∧ (0 ≤ r → W left.toNat v) := by
  induction fuel with
  | zero => intro v left h0 h1; omega
  | succ fuel ih =>
    intro v left h0 h1 h2
    rw [ref11_Few]
    have hit : ∃ o : Int, iter (fun ((left2, k3) : Int × Int) =>
        if (decide (k3 < (v.L.length : Int))) && (decide (left2 ≥ 0)) then
          need (0 ≤ k3 ∧ k3 < v.L.length) <|
          bnd (ref11_Few fuel (ix v.L k3) left2) fun r5 =>
          some (.inl (r5, w64 (k3 + 1)))
        else
          some (.inr left2)) (w64 (left - 1), 0) = some o ∧ (-1 ≤ o ∧ o < left ∧ (0 ≤ o → W left.toNat v)) := by
      rw [w64_id (by omega) (by omega)]
      refine iter_inv (fun s => 0 ≤ s.2 ∧ -1 ≤ s.1 ∧ s.2 + s.1 ≤ left - 1 ∧ s.2 ≤ (v.L.length : Int) ∧ (0 ≤ s.1 → ∀ j : Nat, (j : Int) < s.2 → W (left - 1).toNat (ix v.L (j : Int)))) (fun s => (s.1 + 1).toNat) _ ?h (by show (left - 1 + 1).toNat < _; omega) ?s
      case h => exact ⟨Int.le_refl 0, by show -1 ≤ left - 1; omega, by show 0 + (left - 1) ≤ left - 1; omega, by show (0 : Int) ≤ _; omega, fun _ j hj => by have : (j : Int) < 0 := hj; omega⟩
      case s =>
        intro s hs
        obtain ⟨l2, k⟩ := s
        obtain ⟨i1, i2, i3, i4, i5⟩ := hs
        simp only at i1 i2 i3 i4 i5
        by_cases hc : k < (v.L.length : Int) ∧ 0 ≤ l2
        · have e : ((decide (k < (v.L.length : Int))) && (decide (l2 ≥ 0))) = true := by simp; exact ⟨hc.1, hc.2⟩
          obtain ⟨r, h3, h4, h5, h6⟩ := ih (ix v.L k) l2 hc.2 (by omega) (by omega)
          simp only [e, if_true]
          rw [need_pos ⟨i1, hc.1⟩, h3, bnd_some]
          refine ⟨_, rfl, ?_⟩
          rw [w64_id (by omega) (by omega)]
          refine ⟨⟨by show 0 ≤ k + 1; omega, h4, by show k + 1 + r ≤ left - 1; omega, by show k + 1 ≤ _; omega, fun hr j hj => ?_⟩, by show (r + 1).toNat < (l2 + 1).toNat; omega⟩
          have hr' : 0 ≤ r := hr
          have hj' : (j : Int) < k + 1 := hj
          by_cases hjk : (j : Int) < k
          · exact i5 hc.2 j hjk
          · rw [show (j : Int) = k by omega]
            exact W_mono _ _ _ (by omega) (h6 hr')
        · have e : ((decide (k < (v.L.length : Int))) && (decide (l2 ≥ 0))) = false := by
            cases h : ((decide (k < (v.L.length : Int))) && (decide (l2 ≥ 0))) with
            | false => rfl
            | true => simp at h; exact (hc ⟨h.1, h.2⟩).elim
          simp only [e, Bool.false_eq_true, if_false]
          refine ⟨_, rfl, i2, by show l2 < left; omega, fun hl => ?_⟩
          have hl' : 0 ≤ l2 := hl
          have hk : k = (v.L.length : Int) := by
            by_cases h : k < (v.L.length : Int)
            · exact (hc ⟨h, hl'⟩).elim
            · omega
          obtain ⟨m, hm⟩ : ∃ m, left.toNat = m + 1 := ⟨left.toNat - 1, by omega⟩
          rw [hm]
          refine ⟨by omega, fun x hx => ?_⟩
          obtain ⟨j, hj, rfl⟩ := List.getElem_of_mem hx
          have := i5 hl' j (by omega)
          rw [ix_nat hj, show (left - 1).toNat = m by omega] at this
          exact this
    obtain ⟨o, h3, h4⟩ := hit
    rw [h3]
    exact ⟨o, rfl, h4⟩
def T : Nat → api_Value → Prop
 | 0, _ => False
 | n + 1, v => v.S.b.length ≤ 300 ∧ ∀ x ∈ v.L, T n x
theorem first_or (p : Nat → Bool) : ∀ n, (∀ k, k < n → p k = true) ∨ ∃ j, j < n ∧ p j = false ∧ ∀ k, k < j → p k = true
  | 0 => .inl fun k h => absurd h (Nat.not_lt_zero k)
  | n + 1 => by
    rcases first_or p n with h | ⟨j, h1, h2, h3⟩
    · cases e : p n with
      | true =>
        refine .inl fun k hk => ?_
        rcases Nat.lt_or_ge k n with h' | h'
        · exact h k h'
        · have : k = n := by omega
          subst this; exact e
      | false => exact .inr ⟨n, by omega, e, h⟩
    · exact .inr ⟨j, by omega, h2, h3⟩
theorem pickN {α : Type} {n : Nat} {p : Nat → α → Prop} (d : α) (h : ∀ k, k < n → ∃ a, p k a) : ∃ f : Nat → α, ∀ k, k < n → p k (f k) :=
 ⟨fun k => if hk : k < n then (h k hk).choose else d, fun k hk => by simp only [dif_pos hk]; exact (h k hk).choose_spec⟩
theorem kid {n : Nat} {v : api_Value} (h : W (n + 1) v) {k : Nat} (hk : k < v.L.length) : W n (ix v.L (k : Int)) := by rw [ix_nat hk]; exact h.2 _ (List.getElem_mem hk)
theorem kidT {n : Nat} {v : api_Value} (h : T (n + 1) v) {k : Nat} (hk : k < v.L.length) : T n (ix v.L (k : Int)) := by rw [ix_nat hk]; exact h.2 _ (List.getElem_mem hk)
theorem texts_ok : ∀ (n : Nat) (v : api_Value) (fuel : Nat), W n v → n ≤ fuel → n ≤ 1000 → ∃ b, ref14_texts fuel v = some b ∧ (b = true → T n v)
  | 0, _, _, h, _, _ => h.elim
  | n + 1, v, 0, _, h, _ => by omega
  | n + 1, v, fuel + 1, h, hf, hn => by
    have hl := h.1
    have ih : ∀ k, k < v.L.length → ∃ b, ref14_texts fuel (ix v.L (k : Int)) = some b ∧ (b = true → T n (ix v.L (k : Int))) := fun k hk => texts_ok n _ fuel (kid h hk) (by omega) (by omega)
    obtain ⟨p, hp⟩ : ∃ p : Nat → Bool, ∀ k, k < v.L.length → ref14_texts fuel (ix v.L (k : Int)) = some (p k) ∧ (p k = true → T n (ix v.L (k : Int))) :=
      pickN false ih
    rcases first_or p v.L.length with h1 | ⟨j, h1, h2, h3⟩
    · refine ⟨decide ((v.S.b.length : Int) ≤ 300), ?_, fun hb => ⟨by have := of_decide_eq_true hb; omega, fun x hx => ?_⟩⟩
      · rw [ref14_texts]
        refine jnS_of (z := .inl ()) (bndS_of (z := .inl ()) (iter_cnt v.L.length (by omega) (fun k hk => ?_) (if_not (by simp) rfl)) rfl) rfl
        exact if_of (decide_eq_true (by omega)) (need_of ⟨by omega, by omega⟩ (bnd_of (hp k hk).1 (if_not (by rw [h1 k hk]; simp) rfl)))
      · obtain ⟨i, hi, rfl⟩ := List.getElem_of_mem hx
        have := (hp i hi).2 (h1 i hi)
        rwa [ix_nat hi] at this
    · refine ⟨false, ?_, fun h => by cases h⟩
      rw [ref14_texts]
      refine jnS_of (z := .inr false) (bndS_of (z := .inr false) (iter_cnt j (by omega) (fun k hk => ?_) ?_) rfl) rfl
      · exact if_of (decide_eq_true (by omega)) (need_of ⟨by omega, by omega⟩ (bnd_of (hp k (by omega)).1 (if_not (by rw [h3 k hk]; simp) rfl)))
      · exact if_of (decide_eq_true (by omega)) (need_of ⟨by omega, by omega⟩ (bnd_of (hp j h1).1 (if_of (by rw [h2]; rfl) rfl)))
theorem Few_ok (o : api_Object) (n : Int) : ∃ b, ref14_Few o n = some b ∧ (b = true → W 300 o.V ∧ T 300 o.V) := by
  obtain ⟨r, h1, h2, h3, h4⟩ := few bigN o.V 300 (by decide) (by decide) (by decide)
  unfold ref14_Few
  rw [h1, bnd_some]
  by_cases hc : ((decide (r ≥ 0)) && (decide ((o.Data.b.length : Int) ≤ n))) = true
  · have hr : 0 ≤ r := by simp at hc; exact hc.1
    obtain ⟨b, hb, ht⟩ := texts_ok 300 o.V bigN (h4 hr) (by decide) (by decide)
    rw [hc, whenB_t, hb, bnd_some]
    exact ⟨_, rfl, fun h => ⟨h4 hr, ht (by simpa using h)⟩⟩
  · have hc' : ((decide (r ≥ 0)) && (decide ((o.Data.b.length : Int) ≤ n))) = false := by simpa using hc
    rw [hc', whenB_f, bnd_some]
    exact ⟨_, rfl, fun h => by cases h⟩
def mxf (f : Nat → Int) : Nat → Int
 | 0 => 0
 | k + 1 => max (mxf f k) (f k)
theorem mxf_bnd (f : Nat → Int) (m : Int) (hm : 0 ≤ m) : ∀ k, (∀ i, i < k → f i ≤ m) → 0 ≤ mxf f k ∧ mxf f k ≤ m
 | 0, _ => ⟨Int.le_refl _, hm⟩
 | k + 1, h => by
  obtain ⟨h1, h2⟩ := mxf_bnd f m hm k fun i hi => h i (by omega)
  have := h k (by omega)
  show 0 ≤ max (mxf f k) (f k) ∧ max (mxf f k) (f k) ≤ m
  omega
theorem depth_ok : ∀ (n : Nat) (v : api_Value) (fuel : Nat), W n v → n ≤ fuel → n ≤ 1000 → ∃ d : Int, value_Depth fuel v = some d ∧ ref11_Depth fuel v = some d ∧ 1 ≤ d ∧ d ≤ n
  | 0, _, _, h, _, _ => h.elim
  | n + 1, v, 0, _, h, _ => by omega
  | n + 1, v, fuel + 1, h, hf, hn => by
    have hl := h.1
    have ih : ∀ k, k < v.L.length → ∃ d : Int, value_Depth fuel (ix v.L (k : Int)) = some d ∧ ref11_Depth fuel (ix v.L (k : Int)) = some d ∧ 1 ≤ d ∧ d ≤ n := fun k hk => depth_ok n _ fuel (kid h hk) (by omega) (by omega)
    obtain ⟨f, hfk⟩ : ∃ f : Nat → Int, ∀ k, k < v.L.length → value_Depth fuel (ix v.L (k : Int)) = some (f k) ∧ ref11_Depth fuel (ix v.L (k : Int)) = some (f k) ∧ 1 ≤ f k ∧ f k ≤ n :=
      pickN 0 ih
    have hb : ∀ k, k ≤ v.L.length → 0 ≤ mxf f k ∧ mxf f k ≤ n := fun k hk => mxf_bnd f n (by omega) k fun i hi => (hfk i (by omega)).2.2.2
    by_cases hh : ((v.Kind == 6) || (v.Kind == 7)) = true
    · obtain ⟨b1, b2⟩ := hb v.L.length (Nat.le_refl _)
      refine ⟨1 + mxf f v.L.length, ?_, ?_, by omega, by omega⟩
      · rw [value_Depth]
        refine jn_of (if_of hh (iter_acc v.L.length (mxf f) rfl (by omega) (fun k hk => ?_) (if_not (by simp) rfl))) (congrArg some (w64_id (by omega) (by omega)))
        exact if_of (decide_eq_true (by omega)) (need_of ⟨by omega, by omega⟩ (bnd_of (hfk k hk).1 rfl))
      · rw [ref11_Depth]
        refine bnd_of (a := true) (congrArg some hh) (if_not (by simp) (jn_of (iter_acc v.L.length (fun k => 1 + mxf f k) rfl (by omega) (fun k hk => ?_) (if_not (by simp) rfl)) rfl))
        obtain ⟨e1, e2, e3, e4⟩ := hfk k hk
        obtain ⟨c1, c2⟩ := hb k (by omega)
        refine if_of (decide_eq_true (by omega)) (jn_of (a := 1 + mxf f (k + 1)) (need_of ⟨by omega, by omega⟩ (bnd_of e2 ?_)) rfl)
        rw [w64_id (by omega) (by omega)]
        have em : mxf f (k + 1) = max (mxf f k) (f k) := rfl
        by_cases hc : f k + 1 > 1 + mxf f k
        · rw [if_pos (decide_eq_true hc), em]
          exact congrArg some (by omega)
        · rw [if_neg (by simpa using hc), em]
          exact congrArg some (by omega)
    · refine ⟨1, ?_, ?_, by omega, by omega⟩
      · rw [value_Depth]
        exact jn_of (if_not hh rfl) rfl
      · rw [ref11_Depth]
        have hh' : ((v.Kind == 6) || (v.Kind == 7)) = false := by simpa using hh
        exact bnd_of (a := false) (congrArg some hh') (if_of rfl rfl)
theorem less_tri : ∀ a b : List UInt8, (!Op.bytesLess a b) = (Op.bytesLess b a || (b == a))
  | [], [] => rfl
  | [], b :: y => by
    show (!true) = (false || _)
    simp
  | a :: x, [] => by
    show (!false) = (true || _)
    simp
  | a :: x, b :: y => by
    have ih := less_tri x y
    rw [Op.bytesLess, Op.bytesLess, List.cons_beq_cons]
    rcases Nat.lt_trichotomy a.toNat b.toNat with h | h | h
    · have h1 : a < b := UInt8.lt_iff_toNat_lt.2 h
      have h2 : ¬ b < a := fun h' => by have := UInt8.lt_iff_toNat_lt.1 h'; omega
      have h3 : (b == a) = false := by simp; intro e; subst e; omega
      simp [h1, h2, h3]
    · obtain rfl : a = b := UInt8.toNat_inj.1 h
      have h1 : ¬ a < a := fun h' => by have := UInt8.lt_iff_toNat_lt.1 h'; omega
      simp [h1] at ih ⊢
      exact ih
    · have h1 : b < a := UInt8.lt_iff_toNat_lt.2 h
      have h2 : ¬ a < b := fun h' => by have := UInt8.lt_iff_toNat_lt.1 h'; omega
      have h3 : (a == b) = false := by simp; intro e; subst e; omega
      simp [h1, h2, h3]
theorem num_ok (v : api_Value) (hk : v.Kind = 2 ∨ v.Kind = 3) : ∃ e, num_Check v = some e ∧ ref09_Check v = some e := by
  obtain ⟨K, N, ⟨S⟩, L⟩ := v
  have hl : decide ((L.length : Int) > 0) = !((L.length : Int) == 0) := by
    cases L <;> simp
    omega
  have b1 : ∀ m : Int, decide (N < m) = !decide (N ≥ m) := fun m => by by_cases h : N < m <;> simp [h] <;> omega
  have b2 : ∀ m : Int, decide (N > m) = !decide (N ≤ m) := fun m => by by_cases h : N > m <;> simp [h] <;> omega
  rcases hk with hk | hk
  · obtain rfl : K = 2 := hk
    show ∃ e, (if (((decide (N < -2147483647)) || (decide (N > 2147483647))) || (!(S == []))) || (decide ((L.length : Int) > 0)) then some (2 : Int) else some 0) = some e ∧
      (if (!(S == [])) || (!((L.length : Int) == 0)) then some (2 : Int) else if (decide (N ≥ -2147483647)) && (decide (N ≤ 2147483647)) then some 0 else some 2) = some e
    rw [hl, b1, b2]
    cases (S == []) <;> cases ((L.length : Int) == 0) <;> cases (decide (N ≥ -2147483647)) <;> cases (decide (N ≤ 2147483647)) <;> exact ⟨_, rfl, rfl⟩
  · obtain rfl : K = 3 := hk
    show ∃ e, (if (((decide (N < -2147483647000000)) || (decide (N > 2147483647000000))) || (!(S == []))) || (decide ((L.length : Int) > 0)) then some (2 : Int) else some 0) = some e ∧
      (if (!(S == [])) || (!((L.length : Int) == 0)) then some (2 : Int) else if (decide (N ≥ -2147483647000000)) && (decide (N ≤ 2147483647000000)) then some 0 else some 2) = some e
    rw [hl, b1, b2]
    cases (S == []) <;> cases ((L.length : Int) == 0) <;> cases (decide (N ≥ -2147483647000000)) <;> cases (decide (N ≤ 2147483647000000)) <;> exact ⟨_, rfl, rfl⟩
theorem idx_none : ∀ S : List UInt8, (∀ x ∈ S, x ≠ 0) → Lib.indexByte S 0 = -1
 | [], _ => rfl
 | b :: l, h => by
  have hb : (b == 0) = false := by simpa using h b (by simp)
  rw [Lib.indexByte, hb, idx_none l fun x hx => h x (by simp [hx])]
  rfl
theorem idx_some : ∀ S : List UInt8, 0 ∈ S → 0 ≤ Lib.indexByte S 0
  | [], h => by simp at h
  | b :: l, h => by
    rw [Lib.indexByte]
    by_cases hb : (b == 0) = true
    · rw [if_pos hb]; exact Int.le_refl _
    · rw [if_neg hb]
      have hl : 0 ∈ l := by
        rcases List.mem_cons.1 h with e | e
        · exact absurd (by rw [← e]; rfl) hb
        · exact e
      have := idx_some l hl
      rw [if_neg (by simp; omega)]
      omega
theorem text_ok (S : List UInt8) (hS : S.length ≤ 300) : ref11_Text ⟨S⟩ = some ((decide (Lib.indexByte S 0 < 0)) && (decide ((S.length : Int) ≤ 127))) := by
  rcases first_or (fun k => !(((ix S (k : Int)).toNat : Int) == 0)) S.length with h | ⟨j, h1, h2, h3⟩
  · have hn : Lib.indexByte S 0 = -1 := idx_none S fun x hx e => by
      obtain ⟨i, hi, rfl⟩ := List.getElem_of_mem hx
      have := h i hi
      rw [ix_nat hi, e] at this
      cases this
    rw [hn]
    unfold ref11_Text
    refine jnS_of (z := .inl ()) (bndS_of (z := .inl ()) (iter_cnt S.length (by omega) (fun k hk => ?_) (if_not (by simp) rfl)) rfl) (by simp)
    exact if_of (decide_eq_true (by show (k : Int) < (S.length : Int); omega)) (need_of ⟨by omega, by show (k : Int) < (S.length : Int); omega⟩ (if_not (by have := h k hk; simpa using this) rfl))
  · have hm : (0 : UInt8) ∈ S := by
      have e : ((ix S (j : Int)).toNat : Int) = 0 := by simpa using h2
      rw [ix_nat h1] at e
      have : S[j] = 0 := UInt8.toNat_inj.1 (by rw [show (0 : UInt8).toNat = 0 from rfl]; omega)
      rw [← this]; exact List.getElem_mem h1
    have := idx_some S hm
    rw [decide_eq_false (by omega : ¬ Lib.indexByte S 0 < 0)]
    unfold ref11_Text
    refine jnS_of (z := .inr false) (bndS_of (z := .inr false) (iter_cnt j (by omega) (fun k hk => ?_) ?_) rfl) rfl
    · exact if_of (decide_eq_true (by show (k : Int) < (S.length : Int); omega)) (need_of ⟨by omega, by show (k : Int) < (S.length : Int); omega⟩ (if_not (by have := h3 k hk; simpa using this) rfl))
    · exact if_of (decide_eq_true (by show (j : Int) < (S.length : Int); omega)) (need_of ⟨by omega, by show (j : Int) < (S.length : Int); omega⟩ (if_of (by simpa using h2) rfl))
theorem dict_ok (v : api_Value) (hN : v.N = 0) (hS : v.S.b = []) (hL : v.L.length ≤ 1000) : ∃ e, value_dict v = some e ∧ ref11_dict v = some e := by
  unfold value_dict ref11_dict
  rw [hN, hS]
  by_cases ho : v.L.length % 2 = 1
  · have t1 : Int.tmod (v.L.length : Int) 2 = 1 := by rw [Int.tmod_eq_emod_of_nonneg (by omega)]; omega
    rw [t1]
    exact ⟨2, rfl, rfl⟩
  have t1 : Int.tmod (v.L.length : Int) 2 = 0 := by rw [Int.tmod_eq_emod_of_nonneg (by omega)]; omega
  rw [t1]
  obtain ⟨m, hm⟩ : ∃ m, v.L.length = 2 * m := ⟨v.L.length / 2, by omega⟩
  have w2 : ∀ k : Nat, k ≤ 2000 → w64 ((k : Int) + 2) = ((k + 2 : Nat) : Int) := fun k hk => by rw [w64_id (by omega) (by omega)]; omega
  rcases first_or (fun k => (ix v.L ((2 * k : Nat) : Int)).Kind == 5) m with h | ⟨j, h1, h2, h3⟩
  · have kinds : ∀ (B : Int → Option (Int ⊕ (Unit ⊕ Int))), (∀ i : Nat, i < v.L.length → (ix v.L (i : Int)).Kind = 5 → B i = some (.inl (w64 ((i : Int) + 2)))) → B (v.L.length : Int) = some (.inr (.inl ())) → iter B 0 = some (.inl ()) := fun B hb he => by
      refine iter_upto m (fun k => ((2 * k : Nat) : Int)) rfl (by omega) (fun k hk => ?_) (by show B ((2 * m : Nat) : Int) = _; rw [← hm]; exact he)
      rw [hb (2 * k) (by omega) (by simpa using h k hk), w2 _ (by omega)]; rfl
    rcases first_or (fun k => Op.bytesLess ((ix v.L ((2 * k : Nat) : Int)).S).b ((ix v.L ((2 * k + 2 : Nat) : Int)).S).b) (m - 1) with g | ⟨j, g1, g2, g3⟩
    · have order : ∀ (B : Int → Option (Int ⊕ (Unit ⊕ Int))), (∀ i : Nat, i + 2 < v.L.length → Op.bytesLess ((ix v.L (i : Int)).S).b ((ix v.L ((i + 2 : Nat) : Int)).S).b = true → B ((i + 2 : Nat) : Int) = some (.inl (w64 (((i + 2 : Nat) : Int) + 2)))) → (∀ i : Nat, v.L.length ≤ i → B (i : Int) = some (.inr (.inl ()))) → iter B 2 = some (.inl ()) := fun B hb he => by
        refine iter_upto (m - 1) (fun k => ((2 * k + 2 : Nat) : Int)) rfl (by omega) (fun k hk => ?_) (he _ (by omega))
        rw [hb (2 * k) (by omega) (g k hk), w2 _ (by omega)]; rfl
      refine ⟨0, ?_, ?_⟩
      · refine if_not (by decide) (jnS_of (z := .inl ()) (bndS_of (z := .inl ()) (kinds _ (fun i hi hk => ?_) (if_not (by simp) rfl)) rfl) (jnS_of (z := .inl ()) (bndS_of (z := .inl ()) (order _ (fun i hi hk => ?_) (fun i hi => if_not (by simp; omega) rfl)) rfl) rfl))
        · exact if_of (decide_eq_true (by omega)) (need_of ⟨by omega, by omega⟩ (if_not (by rw [hk]; decide) rfl))
        · have e : w64 (((i + 2 : Nat) : Int) - 2) = (i : Int) := by rw [w64_id (by omega) (by omega)]; omega
          refine if_of (decide_eq_true (by omega)) ?_
          rw [e]
          exact need_of ⟨by omega, by omega⟩ (need_of ⟨by omega, by omega⟩ (if_not (by rw [hk]; decide) rfl))
      · refine if_not (by decide) (jnS_of (z := .inl ()) (bndS_of (z := .inl ()) (kinds _ (fun i hi hk => ?_) (if_not (by simp) rfl)) rfl) (jnS_of (z := .inl ()) (bndS_of (z := .inl ()) (order _ (fun i hi hk => ?_) (fun i hi => if_not (by simp; omega) rfl)) rfl) rfl))
        · exact if_of (decide_eq_true (by omega)) (need_of ⟨by omega, by omega⟩ (if_not (by rw [hk]; decide) rfl))
        · have e : w64 (((i + 2 : Nat) : Int) - 2) = (i : Int) := by rw [w64_id (by omega) (by omega)]; omega
          refine if_of (decide_eq_true (by omega)) ?_
          rw [e, ← less_tri, hk]
          exact need_of ⟨by omega, by omega⟩ (need_of ⟨by omega, by omega⟩ (if_not (by decide) rfl))
    · have order : ∀ (B : Int → Option (Int ⊕ (Unit ⊕ Int))), (∀ i : Nat, i + 2 < v.L.length → Op.bytesLess ((ix v.L (i : Int)).S).b ((ix v.L ((i + 2 : Nat) : Int)).S).b = true → B ((i + 2 : Nat) : Int) = some (.inl (w64 (((i + 2 : Nat) : Int) + 2)))) →
          (∀ i : Nat, i + 2 < v.L.length → Op.bytesLess ((ix v.L (i : Int)).S).b ((ix v.L ((i + 2 : Nat) : Int)).S).b = false → B ((i + 2 : Nat) : Int) = some (.inr (.inr 16))) → iter B 2 = some (.inr 16) := fun B hb he => by
        refine iter_upto j (fun k => ((2 * k + 2 : Nat) : Int)) rfl (by omega) (fun k hk => ?_) (he (2 * j) (by omega) g2)
        rw [hb (2 * k) (by omega) (g3 k hk), w2 _ (by omega)]; rfl
      refine ⟨16, ?_, ?_⟩
      · refine if_not (by decide) (jnS_of (z := .inl ()) (bndS_of (z := .inl ()) (kinds _ (fun i hi hk => ?_) (if_not (by simp) rfl)) rfl) (jnS_of (z := .inr 16) (bndS_of (z := .inr 16) (order _ (fun i hi hk => ?_) (fun i hi hk => ?_)) rfl) rfl))
        · exact if_of (decide_eq_true (by omega)) (need_of ⟨by omega, by omega⟩ (if_not (by rw [hk]; decide) rfl))
        · have e : w64 (((i + 2 : Nat) : Int) - 2) = (i : Int) := by rw [w64_id (by omega) (by omega)]; omega
          refine if_of (decide_eq_true (by omega)) ?_
          rw [e]
          exact need_of ⟨by omega, by omega⟩ (need_of ⟨by omega, by omega⟩ (if_not (by rw [hk]; decide) rfl))
        · have e : w64 (((i + 2 : Nat) : Int) - 2) = (i : Int) := by rw [w64_id (by omega) (by omega)]; omega
          refine if_of (decide_eq_true (by omega)) ?_
          rw [e]
          exact need_of ⟨by omega, by omega⟩ (need_of ⟨by omega, by omega⟩ (if_of (by rw [hk]; decide) rfl))
      · refine if_not (by decide) (jnS_of (z := .inl ()) (bndS_of (z := .inl ()) (kinds _ (fun i hi hk => ?_) (if_not (by simp) rfl)) rfl) (jnS_of (z := .inr 16) (bndS_of (z := .inr 16) (order _ (fun i hi hk => ?_) (fun i hi hk => ?_)) rfl) rfl))
        · exact if_of (decide_eq_true (by omega)) (need_of ⟨by omega, by omega⟩ (if_not (by rw [hk]; decide) rfl))
        all_goals
          have e : w64 (((i + 2 : Nat) : Int) - 2) = (i : Int) := by rw [w64_id (by omega) (by omega)]; omega
          refine if_of (decide_eq_true (by omega)) ?_
          rw [e, ← less_tri, hk]
          exact need_of ⟨by omega, by omega⟩ (need_of ⟨by omega, by omega⟩ rfl)
  · have kinds : ∀ (B : Int → Option (Int ⊕ (Unit ⊕ Int))), (∀ i : Nat, i < v.L.length → (ix v.L (i : Int)).Kind = 5 → B i = some (.inl (w64 ((i : Int) + 2)))) → (∀ i : Nat, i < v.L.length → (ix v.L (i : Int)).Kind ≠ 5 → B i = some (.inr (.inr 2))) → iter B 0 = some (.inr 2) := fun B hb he => by
      refine iter_upto j (fun k => ((2 * k : Nat) : Int)) rfl (by omega) (fun k hk => ?_) (he (2 * j) (by omega) (by simpa using h2))
      rw [hb (2 * k) (by omega) (by simpa using h3 k hk), w2 _ (by omega)]; rfl
    refine ⟨2, ?_, ?_⟩
    all_goals
      refine if_not (by decide) (jnS_of (z := .inr 2) (bndS_of (z := .inr 2) (kinds _ (fun i hi hk => ?_) (fun i hi hk => ?_)) rfl) rfl)
      · exact if_of (decide_eq_true (by omega)) (need_of ⟨by omega, by omega⟩ (if_not (by rw [hk]; decide) rfl))
      · exact if_of (decide_eq_true (by omega)) (need_of ⟨by omega, by omega⟩ (if_of (by simpa using hk) rfl))
theorem own_ok (v : api_Value) (hS : v.S.b.length ≤ 300) (hL : v.L.length ≤ 1000) : ∃ e, value_own v = some e ∧ ref11_own v = some e := by
  by_cases h0 : v.Kind = 0
  · obtain ⟨K, N, ⟨S⟩, L⟩ := v
    obtain rfl : K = 0 := h0
    show ∃ e, (if !(((N == 0) && (S == [])) && ((L.length : Int) == 0)) then some (2 : Int) else some 0) = some e ∧ jnS (if ((S == []) && ((L.length : Int) == 0)) && (N == 0) then some (.inr (0 : Int)) else some (.inl ())) (fun (_ : Unit) => some (2 : Int)) (fun t => some t) = some e
    cases (N == 0) <;> cases (S == []) <;> cases ((L.length : Int) == 0) <;> exact ⟨_, rfl, rfl⟩
  by_cases h1 : v.Kind = 1
  · obtain ⟨K, N, ⟨S⟩, L⟩ := v
    obtain rfl : K = 1 := h1
    show ∃ e, (if !((((N == 0) || (N == 1)) && (S == [])) && ((L.length : Int) == 0)) then some (2 : Int) else some 0) = some e ∧ jnS (if ((S == []) && ((L.length : Int) == 0)) && ((N == 0) || (N == 1)) then some (.inr (0 : Int)) else some (.inl ())) (fun (_ : Unit) => some (2 : Int)) (fun t => some t) = some e
    cases ((N == 0) || (N == 1)) <;> cases (S == []) <;> cases ((L.length : Int) == 0) <;> exact ⟨_, rfl, rfl⟩
  have e0 : (v.Kind == 0) = false := by simpa using h0
  have e1 : (v.Kind == 1) = false := by simpa using h1
  by_cases h2 : v.Kind = 2
  · obtain ⟨e, k1, k2⟩ := num_ok v (.inl h2)
    have e2 : (v.Kind == 2) = true := by rw [h2]; rfl
    refine ⟨e, ?_, ?_⟩
    · unfold value_own
      rw [e0, e1, e2]
      exact jnS_of (z := .inr e) (if_not (by decide) (if_not (by decide) (jn_of (a := true) rfl (if_of rfl (bnd_of k1 rfl))))) rfl
    · unfold ref11_own
      rw [e0, e1, e2]
      exact jnS_of (z := .inr e) (if_not (by decide) (if_not (by decide) (jn_of (if_of rfl rfl) (if_of rfl (bnd_of k2 rfl))))) rfl
  by_cases h3 : v.Kind = 3
  · obtain ⟨e, k1, k2⟩ := num_ok v (.inr h3)
    have e2 : (v.Kind == 2) = false := by rw [h3]; rfl
    have e3 : (v.Kind == 3) = true := by rw [h3]; rfl
    refine ⟨e, ?_, ?_⟩
    · unfold value_own
      rw [e0, e1, e2, e3]
      exact jnS_of (z := .inr e) (if_not (by decide) (if_not (by decide) (jn_of (a := true) rfl (if_of rfl (bnd_of k1 rfl))))) rfl
    · unfold ref11_own
      rw [e0, e1, e2, e3]
      exact jnS_of (z := .inr e) (if_not (by decide) (if_not (by decide) (jn_of (if_not (by decide) rfl) (if_of rfl (bnd_of k2 rfl))))) rfl
  have e2 : (v.Kind == 2) = false := by simpa using h2
  have e3 : (v.Kind == 3) = false := by simpa using h3
  by_cases h4 : v.Kind = 4
  · obtain ⟨K, N, ⟨S⟩, L⟩ := v
    obtain rfl : K = 4 := h4
    show ∃ e, (if !((N == 0) && ((L.length : Int) == 0)) then some (2 : Int) else some 0) = some e ∧ jnS (if (N == 0) && ((L.length : Int) == 0) then some (.inr (0 : Int)) else some (.inl ())) (fun (_ : Unit) => some (2 : Int)) (fun t => some t) = some e
    cases (N == 0) <;> cases ((L.length : Int) == 0) <;> exact ⟨_, rfl, rfl⟩
  by_cases h5 : v.Kind = 5
  · obtain ⟨K, N, ⟨S⟩, L⟩ := v
    obtain rfl : K = 5 := h5
    have ht := text_ok S hS
    show ∃ e, jnS (bnd (whenB (!(decide ((S.length : Int) > 127))) 0 (some (Lib.indexByte S 0))) fun r9 => if (decide ((S.length : Int) > 127)) || (decide (r9 ≥ 0)) then some (.inr (17 : Int)) else some (.inl ((N == 0) && ((L.length : Int) == 0)))) (fun (f : Bool) => if !f then some (2 : Int) else some 0) (fun t => some t) = some e ∧
      jnS (bnd (ref11_Text ⟨S⟩) fun r7 => if !r7 then some (.inr (17 : Int)) else if (N == 0) && ((L.length : Int) == 0) then some (.inr (0 : Int)) else some (.inl ())) (fun (_ : Unit) => some (2 : Int)) (fun t => some t) = some e
    rw [ht, bnd_some]
    by_cases hc : (S.length : Int) > 127
    · rw [decide_eq_true hc, decide_eq_false (by omega : ¬ (S.length : Int) ≤ 127), Bool.and_false]
      exact ⟨17, rfl, rfl⟩
    · rw [decide_eq_false hc, decide_eq_true (by omega : (S.length : Int) ≤ 127), Bool.and_true]
      show ∃ e, jnS (if false || (decide (Lib.indexByte S 0 ≥ 0)) then some (.inr (17 : Int)) else some (.inl ((N == 0) && ((L.length : Int) == 0)))) (fun (f : Bool) => if !f then some (2 : Int) else some 0) (fun t => some t) = some e ∧ _
      by_cases hi : Lib.indexByte S 0 < 0
      · rw [decide_eq_true hi, decide_eq_false (by omega : ¬ Lib.indexByte S 0 ≥ 0)]
        cases (N == 0) <;> cases ((L.length : Int) == 0) <;> exact ⟨_, rfl, rfl⟩
      · rw [decide_eq_false hi, decide_eq_true (by omega : Lib.indexByte S 0 ≥ 0)]
        exact ⟨17, rfl, rfl⟩
  by_cases h6 : v.Kind = 6
  · obtain ⟨K, N, ⟨S⟩, L⟩ := v
    obtain rfl : K = 6 := h6
    show ∃ e, (if !((N == 0) && (S == [])) then some (2 : Int) else some 0) = some e ∧ jnS (if (N == 0) && (S == []) then some (.inr (0 : Int)) else some (.inl ())) (fun (_ : Unit) => some (2 : Int)) (fun t => some t) = some e
    cases (N == 0) <;> cases (S == []) <;> exact ⟨_, rfl, rfl⟩
  by_cases h7 : v.Kind = 7
  · by_cases hc : v.N = 0 ∧ v.S.b = []
    · obtain ⟨e, k1, k2⟩ := dict_ok v hc.1 hc.2 hL
      have a1 : ((v.N == 0) && (v.S.b == (Str.mk []).b)) = true := by rw [hc.1, hc.2]; rfl
      obtain ⟨K, N, ⟨S⟩, L⟩ := v
      obtain rfl : K = 7 := h7
      refine ⟨e, ?_, ?_⟩
      · show jnS (if (N == 0) && (S == []) then (bnd (value_dict ⟨7, N, ⟨S⟩, L⟩) fun r10 => some (.inr r10)) else some (.inl false)) (fun (f : Bool) => if !f then some (2 : Int) else some 0) (fun t => some t) = some e
        exact jnS_of (z := .inr e) (if_of a1 (bnd_of k1 rfl)) rfl
      · show jnS (bnd (ref11_dict ⟨7, N, ⟨S⟩, L⟩) fun r8 => some (.inr r8)) (fun (_ : Unit) => some (2 : Int)) (fun t => some t) = some e
        exact jnS_of (z := .inr e) (bnd_of k2 rfl) rfl
    · have a1 : ((v.N == 0) && (v.S.b == (Str.mk []).b)) = false := by
        cases hh : ((v.N == 0) && (v.S.b == (Str.mk []).b)) with
        | false => rfl
        | true => exact absurd (by simpa using hh) hc
      have k2 : ref11_dict v = some 2 := by
        unfold ref11_dict
        refine if_of ?_ rfl
        have : ((v.N != 0) || (!(v.S.b == (Str.mk []).b))) = !((v.N == 0) && (v.S.b == (Str.mk []).b)) := by
          show ((!(v.N == 0)) || (!(v.S.b == (Str.mk []).b))) = _
          rw [Bool.not_and]
        rw [this, a1]; rfl
      obtain ⟨K, N, ⟨S⟩, L⟩ := v
      obtain rfl : K = 7 := h7
      refine ⟨2, ?_, ?_⟩
      · show jnS (if (N == 0) && (S == []) then (bnd (value_dict ⟨7, N, ⟨S⟩, L⟩) fun r10 => some (.inr r10)) else some (.inl false)) (fun (f : Bool) => if !f then some (2 : Int) else some 0) (fun t => some t) = some 2
        exact jnS_of (z := .inl false) (if_not (by intro h; rw [show ((N == 0) && (S == [])) = false from a1] at h; cases h) rfl) rfl
      · show jnS (bnd (ref11_dict ⟨7, N, ⟨S⟩, L⟩) fun r8 => some (.inr r8)) (fun (_ : Unit) => some (2 : Int)) (fun t => some t) = some 2
        exact jnS_of (z := .inr 2) (bnd_of k2 rfl) rfl
  by_cases h8 : v.Kind = 8
  · obtain ⟨K, N, ⟨S⟩, L⟩ := v
    obtain rfl : K = 8 := h8
    show ∃ e, (if !((((decide (N ≥ 1)) && (decide (N ≤ 4096))) && (S == [])) && ((L.length : Int) == 0)) then some (2 : Int) else some 0) = some e ∧ jnS (if (((S == []) && ((L.length : Int) == 0)) && (decide (N ≥ 1))) && (decide (N ≤ 4096)) then some (.inr (0 : Int)) else some (.inl ())) (fun (_ : Unit) => some (2 : Int)) (fun t => some t) = some e
    cases (decide (N ≥ 1)) <;> cases (decide (N ≤ 4096)) <;> cases (S == []) <;> cases ((L.length : Int) == 0) <;> exact ⟨_, rfl, rfl⟩
  have e4 : (v.Kind == 4) = false := by simpa using h4
  have e5 : (v.Kind == 5) = false := by simpa using h5
  have e6 : (v.Kind == 6) = false := by simpa using h6
  have e7 : (v.Kind == 7) = false := by simpa using h7
  have e8 : (v.Kind == 8) = false := by simpa using h8
  refine ⟨2, ?_, ?_⟩
  · unfold value_own
    rw [e0, e1, e2, e3, e4, e5, e6, e7, e8]
    rfl
  · unfold ref11_own
    rw [e0, e1, e2, e3, e4, e5, e6, e7, e8]
    rfl
end Go.AB.Kp
end

section
set_option linter.unusedSimpArgs false
namespace Go.AB.Kp
open Go Go.AB
theorem notT {b : Bool} (h : (!b) = true) : b = false := by cases b <;> first | rfl | cases h
theorem notF {b : Bool} (h : (!b) = false) : b = true := by cases b <;> first | rfl | cases h
theorem walk_ok : ∀ (n : Nat) (v : api_Value) (fuel : Nat), W n v → T n v → n ≤ fuel → n ≤ 1000 → ∃ e : Int, ref11_first fuel v = some e ∧ ∀ c, value_walk fuel v c = some (e == 0, e)
  | 0, _, _, h, _, _, _ => h.elim
  | n + 1, v, 0, _, _, h, _ => by omega
  | n + 1, v, fuel + 1, h, ht, hf, hn => by
    have hl := h.1
    obtain ⟨e0, o1, o2⟩ := own_ok v ht.1 (by omega)
    have step1 : ∀ c, value_Check_1 v c = some (e0 == 0, e0) := fun c => bnd_of o1 rfl
    by_cases he : e0 = 0
    · subst he
      by_cases hh : ((v.Kind == 6) || (v.Kind == 7)) = true
      · have hh2 : ((v.Kind != 6) && (v.Kind != 7)) = false := by
          show ((!(v.Kind == 6)) && (!(v.Kind == 7))) = false
          rw [← Bool.not_or, hh]; rfl
        have ih : ∀ k, k < v.L.length → ∃ e : Int, ref11_first fuel (ix v.L (k : Int)) = some e ∧ ∀ c, value_walk fuel (ix v.L (k : Int)) c = some (e == 0, e) := fun k hk => walk_ok n _ fuel (kid h hk) (kidT ht hk) (by omega) (by omega)
        obtain ⟨f, hfk⟩ : ∃ f : Nat → Int, ∀ k, k < v.L.length → ref11_first fuel (ix v.L (k : Int)) = some (f k) ∧ ∀ c, value_walk fuel (ix v.L (k : Int)) c = some (f k == 0, f k) :=
          pickN 0 ih
        rcases first_or (fun k => f k == 0) v.L.length with g | ⟨j, g1, g2, g3⟩
        · refine ⟨0, ?_, fun c => ?_⟩
          · rw [ref11_first]
            refine bnd_of o2 (bnd_of (a := true) (congrArg some hh) (if_not (by decide) (jnS_of (z := .inl ()) (bndS_of (z := .inl ()) (iter_cnt v.L.length (by omega) (fun k hk => ?_) (if_not (by simp) rfl)) rfl) rfl)))
            exact if_of (decide_eq_true (by omega)) (need_of ⟨by omega, by omega⟩ (bnd_of (hfk k hk).1 (if_not (by have := g k hk; simpa using this) rfl)))
          · rw [value_walk]
            refine bnd_of (step1 c) (if_not (by decide) (if_not (by rw [hh2]; decide) (jnS_of (z := .inl (0 : Int)) (bndS_of (z := .inl (0 : Int)) (iter_upto v.L.length (fun k => ((k : Int), (0 : Int))) rfl (by omega) (fun k hk => ?_) (if_not (by simp) rfl)) rfl) rfl)))
            have e : f k = 0 := by have := g k hk; simpa using this
            have e2 := (hfk k hk).2 0
            rw [e] at e2
            have w : w64 ((k : Int) + 1) = ((k + 1 : Nat) : Int) := by rw [w64_id (by omega) (by omega)]; omega
            refine if_of (decide_eq_true (by omega)) (need_of ⟨by omega, by omega⟩ (bnd_of e2 (if_not (by decide) ?_)))
            rw [w]
        · have gne : ¬ f j = 0 := by simpa using g2
          have gb : (f j == 0) = false := g2
          refine ⟨f j, ?_, fun c => ?_⟩
          · rw [ref11_first]
            refine bnd_of o2 (bnd_of (a := true) (congrArg some hh) (if_not (by decide) (jnS_of (z := .inr (f j)) (bndS_of (z := .inr (f j)) (iter_cnt j (by omega) (fun k hk => ?_) ?_) rfl) rfl)))
            · exact if_of (decide_eq_true (by omega)) (need_of ⟨by omega, by omega⟩ (bnd_of (hfk k (by omega)).1 (if_not (by have := g3 k hk; simpa using this) rfl)))
            · exact if_of (decide_eq_true (by omega)) (need_of ⟨by omega, by omega⟩ (bnd_of (hfk j g1).1 (if_of (by simpa using gne) rfl)))
          · rw [value_walk]
            refine bnd_of (step1 c) (if_not (by decide) (if_not (by rw [hh2]; decide) (jnS_of (z := .inr (false, f j)) (bndS_of (z := .inr (false, f j)) (iter_upto j (fun k => ((k : Int), (0 : Int))) rfl (by omega) (fun k hk => ?_) ?_) rfl) (by rw [gb]))))
            · have e : f k = 0 := by have := g3 k hk; simpa using this
              have e2 := (hfk k (by omega)).2 0
              rw [e] at e2
              have w : w64 ((k : Int) + 1) = ((k + 1 : Nat) : Int) := by rw [w64_id (by omega) (by omega)]; omega
              refine if_of (decide_eq_true (by omega)) (need_of ⟨by omega, by omega⟩ (bnd_of e2 (if_not (by decide) ?_)))
              rw [w]
            · exact if_of (decide_eq_true (by omega)) (need_of ⟨by omega, by omega⟩ (bnd_of ((hfk j g1).2 0) (if_of (by rw [gb]; rfl) rfl)))
      · have hh1 : ((v.Kind == 6) || (v.Kind == 7)) = false := by simpa using hh
        have hh2 : ((v.Kind != 6) && (v.Kind != 7)) = true := by
          show ((!(v.Kind == 6)) && (!(v.Kind == 7))) = true
          rw [← Bool.not_or, hh1]; rfl
        refine ⟨0, ?_, fun c => ?_⟩
        · rw [ref11_first]
          exact bnd_of o2 (bnd_of (a := false) (congrArg some hh1) (if_of (by decide) rfl))
        · rw [value_walk]
          exact bnd_of (step1 c) (if_not (by decide) (if_of hh2 rfl))
    · have hb : (e0 == 0) = false := by simpa using he
      have hb2 : (e0 != 0) = true := by show (!(e0 == 0)) = true; rw [hb]; rfl
      refine ⟨e0, ?_, fun c => ?_⟩
      · rw [ref11_first]
        refine bnd_of o2 (bnd_of (a := false) ?_ (if_of (by rw [hb2]; rfl) rfl))
        rw [hb2]; rfl
      · rw [value_walk]
        exact bnd_of (step1 c) (if_of (by rw [hb]; rfl) (by rw [hb]))
theorem check_ok (v : api_Value) (h : W 300 v) (ht : T 300 v) : ∃ e, value_Check v = some e ∧ ref11_Check v = some e := by
  obtain ⟨d, d1, d2, d3, d4⟩ := depth_ok 300 v bigN h (by decide) (by decide)
  obtain ⟨e, w1, w2⟩ := walk_ok 300 v bigN h ht (by decide) (by decide)
  by_cases hd : d > 64
  · exact ⟨15, bnd_of d1 (if_of (by simpa using hd) rfl), bnd_of d2 (if_of (by simpa using hd) rfl)⟩
  · exact ⟨e, bnd_of d1 (if_not (by simpa using hd) (bnd_of (w2 0) rfl)), bnd_of d2 (if_not (by simpa using hd) (bnd_of w1 rfl))⟩
theorem find_ok (v : api_Value) (key : Str) (hL : v.L.length ≤ 1000) : ∃ i, value_find v key = some i ∧ ref11_Find v key = some i ∧ (i = -1 ∨ (0 ≤ i ∧ i < v.L.length)) := by
  by_cases hk : v.Kind = 7
  · have hk1 : (v.Kind == 7) = true := by rw [hk]; rfl
    have hk2 : (v.Kind != 7) = false := by show (!(v.Kind == 7)) = false; rw [hk1]; rfl
    have w2 : ∀ k : Nat, k ≤ 2000 → w64 ((k : Int) + 2) = ((k + 2 : Nat) : Int) := fun k hk => by rw [w64_id (by omega) (by omega)]; omega
    rcases first_or (fun k => !(((ix v.L ((2 * k : Nat) : Int)).Kind == 5) && (((ix v.L ((2 * k : Nat) : Int)).S).b == key.b))) ((v.L.length + 1) / 2) with g | ⟨j, g1, g2, g3⟩
    · have lp : ∀ (B : Int → Option (Int ⊕ (Unit ⊕ Int))), (∀ i : Nat, i < v.L.length → (((ix v.L (i : Int)).Kind == 5) && (((ix v.L (i : Int)).S).b == key.b)) = false → B i = some (.inl (w64 ((i : Int) + 2)))) → (∀ i : Nat, v.L.length ≤ i → B (i : Int) = some (.inr (.inl ()))) → iter B 0 = some (.inl ()) := fun B hb he => by
        refine iter_upto ((v.L.length + 1) / 2) (fun k => ((2 * k : Nat) : Int)) rfl (by omega) (fun k hk => ?_) (he _ (by omega))
        rw [hb (2 * k) (by omega) (notT (g k hk)), w2 _ (by omega)]; rfl
      refine ⟨-1, ?_, ?_, .inl rfl⟩
      · unfold value_find
        rw [hk2]
        refine if_not (by decide) (jnS_of (z := .inl ()) (bndS_of (z := .inl ()) (lp _ (fun i hi hc => ?_) (fun i hi => if_not (by simp; omega) rfl)) rfl) rfl)
        exact if_of (decide_eq_true (by omega)) (need_of ⟨by omega, by omega⟩ (need_of (fun _ => ⟨by omega, by omega⟩) (if_not (by rw [hc]; decide) rfl)))
      · unfold ref11_Find
        rw [hk1]
        refine jnS_of (z := .inl ()) (bndS_of (z := .inl ()) (lp _ (fun i hi hc => ?_) (fun i hi => if_not (by simp; omega) rfl)) rfl) rfl
        exact if_of (by simp; omega) (need_of ⟨by omega, by omega⟩ (need_of (fun _ => ⟨by omega, by omega⟩) (if_not (by rw [hc]; decide) rfl)))
    · have lp : ∀ (B : Int → Option (Int ⊕ (Unit ⊕ Int))), (∀ i : Nat, i < v.L.length → (((ix v.L (i : Int)).Kind == 5) && (((ix v.L (i : Int)).S).b == key.b)) = false → B i = some (.inl (w64 ((i : Int) + 2)))) → (∀ i : Nat, i < v.L.length → (((ix v.L (i : Int)).Kind == 5) && (((ix v.L (i : Int)).S).b == key.b)) = true → B (i : Int) = some (.inr (.inr (i : Int)))) → iter B 0 = some (.inr ((2 * j : Nat) : Int)) := fun B hb he => by
        refine iter_upto j (fun k => ((2 * k : Nat) : Int)) rfl (by omega) (fun k hk => ?_) (he _ (by omega) (notF g2))
        rw [hb (2 * k) (by omega) (notT (g3 k hk)), w2 _ (by omega)]; rfl
      refine ⟨((2 * j : Nat) : Int), ?_, ?_, .inr ⟨by omega, by omega⟩⟩
      · unfold value_find
        rw [hk2]
        refine if_not (by decide) (jnS_of (z := .inr ((2 * j : Nat) : Int)) (bndS_of (z := .inr ((2 * j : Nat) : Int)) (lp _ (fun i hi hc => ?_) (fun i hi hc => ?_)) rfl) rfl)
        · exact if_of (decide_eq_true (by omega)) (need_of ⟨by omega, by omega⟩ (need_of (fun _ => ⟨by omega, by omega⟩) (if_not (by rw [hc]; decide) rfl)))
        · exact if_of (decide_eq_true (by omega)) (need_of ⟨by omega, by omega⟩ (need_of (fun _ => ⟨by omega, by omega⟩) (if_of hc rfl)))
      · unfold ref11_Find
        rw [hk1]
        refine jnS_of (z := .inr ((2 * j : Nat) : Int)) (bndS_of (z := .inr ((2 * j : Nat) : Int)) (lp _ (fun i hi hc => ?_) (fun i hi hc => ?_)) rfl) rfl
        · exact if_of (by simp; omega) (need_of ⟨by omega, by omega⟩ (need_of (fun _ => ⟨by omega, by omega⟩) (if_not (by rw [hc]; decide) rfl)))
        · exact if_of (by simp; omega) (need_of ⟨by omega, by omega⟩ (need_of (fun _ => ⟨by omega, by omega⟩) (if_of hc rfl)))
  · have hk1 : (v.Kind == 7) = false := by simpa using hk
    refine ⟨-1, if_of (by show (!(v.Kind == 7)) = true; rw [hk1]; rfl) rfl, ?_, .inl rfl⟩
    unfold ref11_Find
    rw [hk1]
    exact jnS_of (z := .inl ()) (bndS_of (z := .inl ()) (iter_cnt 0 (by omega) (fun k hk => by omega) (if_not (by simp) rfl)) rfl) rfl
theorem has_ok (v : api_Value) (key : Str) (hL : v.L.length ≤ 1000) : ∃ i : Int, frame_has v key = some (decide (i ≥ 0)) ∧ ref11_Find v key = some i := by
  obtain ⟨i, h1, h2, h3⟩ := find_ok v key hL
  refine ⟨i, ?_, h2⟩
  unfold frame_has value_Get
  rw [h1, bnd_some]
  rcases h3 with rfl | ⟨h3, h4⟩
  · rfl
  · have e : decide (i < 0) = false := decide_eq_false (by omega)
    have e1 : decide (i ≥ 0) = true := decide_eq_true h3
    have w : w64 (i + 1) = i + 1 := w64_id (by omega) (by omega)
    rw [e, e1, w]
    by_cases hc : ((i + 1) == (v.L.length : Int)) = true
    · exact bnd_of (if_not (by decide) (if_of hc rfl)) rfl
    · have : ¬ i + 1 = (v.L.length : Int) := by simpa using hc
      exact bnd_of (if_not (by decide) (if_not hc (need_of ⟨by omega, by omega⟩ rfl))) rfl
theorem fcheck_ok (o : api_Object) (h : W 300 o.V) (ht : T 300 o.V) : ∃ e, frame_Check o = some e ∧ ref14_Check o = some e := by
  obtain ⟨e, c1, c2⟩ := check_ok o.V h ht
  have hL : o.V.L.length ≤ 1000 := by have h1 : o.V.L.length ≤ 299 := h.1; omega
  obtain ⟨i1, a1, b1⟩ := has_ok o.V (Str.mk [76, 101, 110, 103, 116, 104]) hL
  obtain ⟨i2, a2, b2⟩ := has_ok o.V (Str.mk [70, 105, 108, 116, 101, 114]) hL
  obtain ⟨i3, a3, b3⟩ := has_ok o.V (Str.mk [68, 101, 99, 111, 100, 101, 80, 97, 114, 109, 115]) hL
  unfold frame_Check ref14_Check
  rw [c1, c2, bnd_some, bnd_some, a1, a2, a3, b1, b2, b3]
  by_cases he : (e != 0) = true
  · rw [he]; exact ⟨e, rfl, rfl⟩
  have he' : (e != 0) = false := by simpa using he
  rw [he']
  cases o.Stream <;> cases (o.Data.b == (Str.mk []).b) <;> cases (o.V.Kind != 7) <;> by_cases h1 : i1 ≥ 0 <;> by_cases h2 : i2 ≥ 0 <;> by_cases h3 : i3 ≥ 0 <;> cases (decide ((o.Data.b.length : Int) > 16777216)) <;> simp [h1, h2, h3] <;> rfl
end Go.AB.Kp
end

section
set_option linter.unusedSimpArgs false
namespace Go.AB.Kp
open Go Go.AB
theorem cmpI_ok (x y : Int) : ∃ c, cmp_Compareint x y = some c ∧ (c = 0 ↔ x = y) := by
  have nn : ∀ z : Int, (z != z) = false := fun z => by simp
  unfold cmp_Compareint cmp_isNaNint
  rw [nn, nn, bnd_some, bnd_some]
  by_cases h1 : x < y
  · exact ⟨-1, if_not (by decide) (if_not (by decide) (if_of (by simpa using h1) rfl)), by constructor <;> intro h <;> omega⟩
  · by_cases h2 : x > y
    · exact ⟨1, if_not (by decide) (if_not (by decide) (if_not (by simpa using h1) (if_of (by simpa using h2) rfl))), by constructor <;> intro h <;> omega⟩
    · exact ⟨0, if_not (by decide) (if_not (by decide) (if_not (by simpa using h1) (if_not (by simpa using h2) rfl))), by constructor <;> intro h <;> omega⟩
theorem cmpS_ok : ∀ a b : List UInt8, Lib.compareBytes a b = 0 ↔ a = b
  | [], [] => ⟨fun _ => rfl, fun _ => rfl⟩
  | [], _ :: _ => ⟨fun h => (by rw [Lib.compareBytes] at h; cases h), fun h => (by cases h)⟩
  | _ :: _, [] => ⟨fun h => (by rw [Lib.compareBytes] at h; cases h), fun h => (by cases h)⟩
  | a :: x, b :: y => by
    rw [Lib.compareBytes]
    by_cases h1 : a < b
    · rw [if_pos h1]
      refine ⟨fun h => (by cases h), fun h => ?_⟩
      injection h with h _
      subst h
      exact absurd (UInt8.lt_iff_toNat_lt.1 h1) (Nat.lt_irrefl _)
    · rw [if_neg h1]
      by_cases h2 : b < a
      · rw [if_pos h2]
        refine ⟨fun h => (by cases h), fun h => ?_⟩
        injection h with h _
        subst h
        exact absurd (UInt8.lt_iff_toNat_lt.1 h2) (Nat.lt_irrefl _)
      · rw [if_neg h2, cmpS_ok x y]
        have e : a = b := UInt8.toNat_inj.1 (by
          have k1 : ¬ a.toNat < b.toNat := fun h => h1 (UInt8.lt_iff_toNat_lt.2 h)
          have k2 : ¬ b.toNat < a.toNat := fun h => h2 (UInt8.lt_iff_toNat_lt.2 h)
          omega)
        subst e
        constructor
        · intro h; rw [h]
        · intro h; injection h
theorem or_ok (a b c : Int) : ∃ r, cmp_Orint [a, b, c] = some r ∧ (r = 0 ↔ a = 0 ∧ b = 0 ∧ c = 0) := by
  by_cases ha : a = 0
  · by_cases hb : b = 0
    · by_cases hc : c = 0
      · subst ha; subst hb; subst hc
        exact ⟨0, by kernel_rfl, by simp⟩
      · subst ha; subst hb
        refine ⟨c, ?_, by simp⟩
        unfold cmp_Orint
        refine jnS_of (z := .inr c) (bndS_of (z := .inr c) (iter_cnt 2 (by omega) (fun k hk => ?_) ?_) rfl) rfl
        · have : k = 0 ∨ k = 1 := by omega
          rcases this with rfl | rfl <;> rfl
        · exact if_of rfl (need_of (show (0 : Int) ≤ 2 ∧ (2 : Int) < 3 by decide) (if_of (by show (c != 0) = true; simpa using hc) rfl))
    · subst ha
      refine ⟨b, ?_, by simp [hb]⟩
      unfold cmp_Orint
      refine jnS_of (z := .inr b) (bndS_of (z := .inr b) (iter_cnt 1 (by omega) (fun k hk => ?_) ?_) rfl) rfl
      · obtain rfl : k = 0 := by omega
        rfl
      · exact if_of rfl (need_of (show (0 : Int) ≤ 1 ∧ (1 : Int) < 3 by decide) (if_of (by show (b != 0) = true; simpa using hb) rfl))
  · refine ⟨a, ?_, by simp [ha]⟩
    unfold cmp_Orint
    refine jnS_of (z := .inr a) (bndS_of (z := .inr a) (iter_cnt 0 (by omega) (fun k hk => by omega) ?_) rfl) rfl
    exact if_of rfl (need_of (show (0 : Int) ≤ 0 ∧ (0 : Int) < 3 by decide) (if_of (by show (a != 0) = true; simpa using ha) rfl))
theorem val_ext {a b : api_Value} (h1 : a.Kind = b.Kind) (h2 : a.N = b.N) (h3 : a.S.b = b.S.b) (h4 : a.L = b.L) : a = b := by
 obtain ⟨K, N, ⟨S⟩, L⟩ := a
 obtain ⟨K', N', ⟨S'⟩, L'⟩ := b
 simp only at h1 h2 h3 h4
 rw [h1, h2, h3, h4]
theorem list_ext {a b : List api_Value} (hl : a.length = b.length) (h : ∀ k, k < a.length → ix a (k : Int) = ix b (k : Int)) : a = b := by
 refine List.ext_getElem hl fun k h1 h2 => ?_
 have := h k h1
 rwa [ix_nat h1, ix_nat h2] at this
theorem compare_ok : ∀ (n : Nat) (a b : api_Value) (fuel : Nat), W n a → 2 * n ≤ fuel → n ≤ 1000 → ∃ c, value_Compare fuel a b = some c ∧ (c = 0 ↔ a = b)
  | 0, _, _, _, h, _, _ => h.elim
  | n + 1, a, b, 0, _, h, _ => by omega
  | n + 1, a, b, 1, _, h, _ => by omega
  | n + 1, a, b, fuel + 2, h, hf, hn => by
    have hl := h.1
    obtain ⟨c1, e1, k1⟩ := cmpI_ok a.Kind b.Kind
    obtain ⟨c2, e2, k2⟩ := cmpI_ok a.N b.N
    have k3 := cmpS_ok a.S.b b.S.b
    obtain ⟨r, e4, k4⟩ := or_ok c1 c2 (Lib.compareBytes a.S.b b.S.b)
    have e3 : strings_Compare a.S b.S = some (Lib.compareBytes a.S.b b.S.b) := rfl
    rw [value_Compare, e1, bnd_some, e2, bnd_some, e3, bnd_some, e4, bnd_some]
    by_cases hr : r = 0
    · obtain ⟨z1, z2, z3⟩ := k4.1 hr
      have q1 := k1.1 z1
      have q2 := k2.1 z2
      have q3 := k3.1 z3
      have fin : ∀ x : Option Int, (∃ c, x = some c ∧ (c = 0 ↔ a.L = b.L)) → ∃ c, (if (r != 0) = true then some r else bnd x fun r5 => some r5) = some c ∧ (c = 0 ↔ a = b) := by
        rintro x ⟨c, rfl, hc⟩
        refine ⟨c, if_not (by simp [hr]) rfl, hc.trans ⟨fun e => val_ext q1 q2 q3 e, fun e => by rw [e]⟩⟩
      refine fin _ ?_
      rw [slices_CompareFuncapi_Value_api_Value_api_Value_api_Value]
      have ih : ∀ k, k < a.L.length → ∃ c, value_Compare fuel (ix a.L (k : Int)) (ix b.L (k : Int)) = some c ∧ (c = 0 ↔ ix a.L (k : Int) = ix b.L (k : Int)) := fun k hk => compare_ok n _ _ fuel (kid h hk) (by omega) (by omega)
      obtain ⟨f, hfk⟩ : ∃ f : Nat → Int, ∀ k, k < a.L.length → value_Compare fuel (ix a.L (k : Int)) (ix b.L (k : Int)) = some (f k) ∧ (f k = 0 ↔ ix a.L (k : Int) = ix b.L (k : Int)) :=
        pickN 0 ih
      rcases first_or (fun k => decide (k < b.L.length) && (f k == 0)) a.L.length with g | ⟨j, g1, g2, g3⟩
      · have gk : ∀ k, k < a.L.length → k < b.L.length ∧ f k = 0 := fun k hk => by have := g k hk; simpa using this
        have hle : a.L.length ≤ b.L.length := by
          rcases Nat.lt_or_ge b.L.length a.L.length with hh | hh
          · have := (gk b.L.length hh).1; omega
          · exact hh
        refine ⟨if (a.L.length : Int) < (b.L.length : Int) then -1 else 0, jnS_of (z := .inl ()) (bndS_of (z := .inl ()) (iter_cnt a.L.length (by omega) (fun k hk => ?_) (if_not (by simp) rfl)) rfl) ?_, ?_⟩
        · obtain ⟨g4, g5⟩ := gk k hk
          have e := (hfk k hk).1
          rw [g5] at e
          exact if_of (decide_eq_true (by omega)) (need_of ⟨by omega, by omega⟩ (if_not (by simp; omega) (need_of ⟨by omega, by omega⟩ (bnd_of e (if_not (by decide) rfl)))))
        · by_cases hh : (a.L.length : Int) < (b.L.length : Int)
          · rw [if_pos hh]; exact if_of (by simpa using hh) rfl
          · rw [if_neg hh]; exact if_not (by simpa using hh) rfl
        · by_cases hh : (a.L.length : Int) < (b.L.length : Int)
          · rw [if_pos hh]
            exact ⟨fun e => (by cases e), fun e => by rw [e] at hh; omega⟩
          · rw [if_neg hh]
            exact ⟨fun _ => list_ext (by omega) fun k hk => (hfk k hk).2.1 (gk k hk).2, fun _ => rfl⟩
      · have gk : ∀ k, k < j → k < b.L.length ∧ f k = 0 := fun k hk => by have := g3 k hk; simpa using this
        have lp : ∀ k, k < j → (if decide ((k : Int) < (a.L.length : Int)) = true then
            need (0 ≤ (k : Int) ∧ (k : Int) < a.L.length) <|
            if decide ((k : Int) ≥ (b.L.length : Int)) then
              some (.inr (.inr (1 : Int)))
            else
              need (0 ≤ (k : Int) ∧ (k : Int) < b.L.length) <|
              bnd (value_Compare fuel (ix a.L (k : Int)) (ix b.L (k : Int))) fun r8 =>
              if r8 != 0 then
                some (.inr (.inr r8))
              else
                some (.inl (w64 ((k : Int) + 1)))
          else
            some (.inr (.inl ()))) = (some (.inl (w64 ((k : Int) + 1))) : Option (Int ⊕ (Unit ⊕ Int))) := fun k hk => by
          obtain ⟨g4, g5⟩ := gk k hk
          have e := (hfk k (by omega)).1
          rw [g5] at e
          exact if_of (decide_eq_true (by omega)) (need_of ⟨by omega, by omega⟩ (if_not (by simp; omega) (need_of ⟨by omega, by omega⟩ (bnd_of e (if_not (by decide) rfl)))))
        by_cases hj : j < b.L.length
        · have gne : ¬ f j = 0 := by
            intro e
            rw [e, decide_eq_true hj] at g2
            cases g2
          refine ⟨f j, jnS_of (z := .inr (f j)) (bndS_of (z := .inr (f j)) (iter_cnt j (by omega) lp ?_) rfl) rfl, fun e => absurd e gne, fun e => absurd ((hfk j g1).2.2 (by rw [e])) gne⟩
          exact if_of (decide_eq_true (by omega)) (need_of ⟨by omega, by omega⟩ (if_not (by simp; omega) (need_of ⟨by omega, by omega⟩ (bnd_of (hfk j g1).1 (if_of (by simpa using gne) rfl)))))
        · refine ⟨1, jnS_of (z := .inr 1) (bndS_of (z := .inr 1) (iter_cnt j (by omega) lp ?_) rfl) rfl, fun e => (by cases e), fun e => by rw [e] at g1; omega⟩
          exact if_of (decide_eq_true (by omega)) (need_of ⟨by omega, by omega⟩ (if_of (by simp; omega) rfl))
    · refine ⟨r, if_of (by simpa using hr) rfl, ⟨fun e => absurd e hr, fun e => ?_⟩⟩
      subst e
      exact absurd (k4.2 ⟨k1.2 rfl, k2.2 rfl, k3.2 rfl⟩) hr
theorem less_irrefl (a : List UInt8) : Op.bytesLess a a = false := by
 have := less_tri a a
 cases h : Op.bytesLess a a with
 | false => rfl
 | true => rw [h] at this; simp at this
theorem rcompare_ok : ∀ (n : Nat) (a b : api_Value) (fuel : Nat), W n a → n ≤ fuel → n ≤ 1000 → ∃ c, ref11_Compare fuel a b = some c ∧ (c = 0 ↔ a = b)
  | 0, _, _, _, h, _, _ => h.elim
  | n + 1, a, b, 0, _, h, _ => by omega
  | n + 1, a, b, fuel + 1, h, hf, hn => by
    have hl := h.1
    rw [ref11_Compare]
    by_cases h1 : ((decide (a.Kind < b.Kind)) || ((a.Kind == b.Kind) && ((decide (a.N < b.N)) || ((a.N == b.N) && (Op.bytesLess a.S.b b.S.b))))) = true
    · refine ⟨-1, if_of h1 rfl, fun e => (by cases e), fun e => ?_⟩
      subst e
      simp [less_irrefl] at h1
    · rw [if_neg h1]
      by_cases h2 : (((a.Kind != b.Kind) || (a.N != b.N)) || (!(a.S.b == b.S.b))) = true
      · refine ⟨1, if_of h2 rfl, fun e => (by cases e), fun e => ?_⟩
        subst e
        simp at h2
      · rw [if_neg h2]
        have h3 : a.Kind = b.Kind ∧ a.N = b.N ∧ a.S.b = b.S.b := by
          simp at h2
          exact ⟨h2.1.1, h2.1.2, h2.2⟩
        obtain ⟨q1, q2, q3⟩ := h3
        have ih : ∀ k, k < a.L.length → ∃ c, ref11_Compare fuel (ix a.L (k : Int)) (ix b.L (k : Int)) = some c ∧ (c = 0 ↔ ix a.L (k : Int) = ix b.L (k : Int)) := fun k hk => rcompare_ok n _ _ fuel (kid h hk) (by omega) (by omega)
        obtain ⟨f, hfk⟩ : ∃ f : Nat → Int, ∀ k, k < a.L.length → ref11_Compare fuel (ix a.L (k : Int)) (ix b.L (k : Int)) = some (f k) ∧ (f k = 0 ↔ ix a.L (k : Int) = ix b.L (k : Int)) :=
          pickN 0 ih
        have lp : ∀ k, k < a.L.length → k < b.L.length → f k = 0 → (if ((decide ((k : Int) < (a.L.length : Int))) && (decide ((k : Int) < (b.L.length : Int)))) = true then
            need (0 ≤ (k : Int) ∧ (k : Int) < a.L.length) <|
            need (0 ≤ (k : Int) ∧ (k : Int) < b.L.length) <|
            bnd (ref11_Compare fuel (ix a.L (k : Int)) (ix b.L (k : Int))) fun r8 =>
            if r8 != 0 then
              some (.inr (.inr r8))
            else
              some (.inl (w64 ((k : Int) + 1)))
          else
            some (.inr (.inl ()))) = (some (.inl (w64 ((k : Int) + 1))) : Option (Int ⊕ (Unit ⊕ Int))) := fun k hk hk2 e0 => by
          have e := (hfk k hk).1
          rw [e0] at e
          exact if_of (by simp; omega) (need_of ⟨by omega, by omega⟩ (need_of ⟨by omega, by omega⟩ (bnd_of e (if_not (by decide) rfl))))
        rcases first_or (fun k => f k == 0) (min a.L.length b.L.length) with g | ⟨j, g1, g2, g3⟩
        · have gk : ∀ k, k < min a.L.length b.L.length → f k = 0 := fun k hk => by have := g k hk; simpa using this
          have fin : ∀ c, (if decide ((a.L.length : Int) < (b.L.length : Int)) = true then some (-1) else if decide ((a.L.length : Int) > (b.L.length : Int)) = true then some 1 else some 0) = some c → ∃ c, jnS (bndS (iter (fun (k4 : Int) =>
              if (decide (k4 < (a.L.length : Int))) && (decide (k4 < (b.L.length : Int))) then
                need (0 ≤ k4 ∧ k4 < a.L.length) <|
                need (0 ≤ k4 ∧ k4 < b.L.length) <|
                bnd (ref11_Compare fuel (ix a.L k4) (ix b.L k4)) fun r8 =>
                if r8 != 0 then
                  some (.inr (.inr r8))
                else
                  some (.inl (w64 (k4 + 1)))
              else
                some (.inr (.inl ()))) 0) (fun (_ : Unit) => some (.inl ())) (fun (t7 : Int) => some (.inr t7))) (fun (_ : Unit) =>
              if decide ((a.L.length : Int) < (b.L.length : Int)) then some (-1) else if decide ((a.L.length : Int) > (b.L.length : Int)) then some 1 else some 0) (fun (t3 : Int) => some t3) = some c ∧ (c = 0 ↔ a = b) := fun c hc => by
            refine ⟨c, jnS_of (z := .inl ()) (bndS_of (z := .inl ()) (iter_cnt (min a.L.length b.L.length) (by omega) (fun k hk => lp k (by omega) (by omega) (gk k hk)) (if_not (by simp; omega) rfl)) rfl) hc, ?_⟩
            by_cases e1 : (a.L.length : Int) < (b.L.length : Int)
            · rw [if_pos (by simpa using e1)] at hc
              injection hc with hc
              exact ⟨fun e => by omega, fun e => by rw [e] at e1; omega⟩
            · rw [if_neg (by simpa using e1)] at hc
              by_cases e2 : (a.L.length : Int) > (b.L.length : Int)
              · rw [if_pos (by simpa using e2)] at hc
                injection hc with hc
                exact ⟨fun e => by omega, fun e => by rw [e] at e2; omega⟩
              · rw [if_neg (by simpa using e2)] at hc
                injection hc with hc
                exact ⟨fun _ => val_ext q1 q2 q3 (list_ext (by omega) fun k hk => (hfk k hk).2.1 (gk k (by omega))), fun _ => hc.symm⟩
          by_cases e1 : (a.L.length : Int) < (b.L.length : Int)
          · exact fin (-1) (if_of (by simpa using e1) rfl)
          · by_cases e2 : (a.L.length : Int) > (b.L.length : Int)
            · exact fin 1 (if_not (by simpa using e1) (if_of (by simpa using e2) rfl))
            · exact fin 0 (if_not (by simpa using e1) (if_not (by simpa using e2) rfl))
        · have gne : ¬ f j = 0 := by simpa using g2
          refine ⟨f j, jnS_of (z := .inr (f j)) (bndS_of (z := .inr (f j)) (iter_cnt j (by omega) (fun k hk => lp k (by omega) (by omega) (by have := g3 k hk; simpa using this)) ?_) rfl) rfl, fun e => absurd e gne, fun e => absurd ((hfk j (by omega)).2.2 (by rw [e])) gne⟩
          exact if_of (by simp; omega) (need_of ⟨by omega, by omega⟩ (need_of ⟨by omega, by omega⟩ (bnd_of (hfk j (by omega)).1 (if_of (by simpa using gne) rfl))))
theorem same_ok (a b : api_Value) (h : W 300 a) : ∃ x, value_Same a b = some x ∧ ref11_Same a b = some x ∧ (x = true ↔ a = b) := by
  obtain ⟨c1, e1, k1⟩ := compare_ok 300 a b bigN h (by decide) (by decide)
  obtain ⟨c2, e2, k2⟩ := rcompare_ok 300 a b bigN h (by decide) (by decide)
  refine ⟨c1 == 0, bnd_of e1 rfl, bnd_of e2 ?_, ?_⟩
  · have : (c2 == 0) = (c1 == 0) := by
      rw [Bool.eq_iff_iff]
      simp only [beq_iff_eq]
      rw [k1, k2]
    rw [this]
  · simp only [beq_iff_eq]; exact k1
theorem fsame_ok (a b : api_Object) (h : W 300 a.V) : ∃ x, frame_Same a b = some x ∧ ref14_Same a b = some x := by
 obtain ⟨x, e1, e2, _⟩ := same_ok a.V b.V h
 unfold frame_Same ref14_Same
 rw [e1, e2]
 cases x <;> cases (a.Stream == b.Stream) <;> cases (a.Data.b == b.Data.b) <;> exact ⟨_, rfl, rfl⟩
theorem rsame_self (o : api_Object) (h : W 300 o.V) : ref14_Same o o = some true := by
 obtain ⟨x, e1, e2, e3⟩ := same_ok o.V o.V h
 obtain rfl : x = true := e3.2 rfl
 refine bnd_of e2 ?_
 cases o.Stream <;> simp
end Go.AB.Kp
end
