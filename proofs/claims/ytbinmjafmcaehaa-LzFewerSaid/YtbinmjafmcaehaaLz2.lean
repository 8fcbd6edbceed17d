/- Lz: what the models come to. -/
import Derived.Test.YtbinmjafmcaehaaLz1
import Derived.Test.YtbinmjafmcaehaaPure1
namespace Go.AB
open Go

theorem law06_works_true : law06_works = some true := by kernel_rfl

/-- How many bytes repeat, from a place on. -/
def rep (b : List UInt8) (at' far : Nat) : Nat → Nat
  | 0 => 0
  | m + 1 => if at' < b.length ∧ b[at']? = b[at' - far]? then rep b (at' + 1) far m + 1 else 0

def matchS (b : List UInt8) (at' far most : Int) : Int :=
  if at' < 0 ∨ at' ≥ b.length ∨ far < 1 ∨ far > at' then 0 else (rep b at'.toNat far.toNat most.toNat : Int)

theorem rep_le (b : List UInt8) (far : Nat) : ∀ (m at' : Nat), rep b at' far m ≤ m
  | 0, _ => Nat.le_refl _
  | m + 1, at' => by
    unfold rep
    split
    · have := rep_le b far m (at' + 1); omega
    · omega
theorem rep_len (b : List UInt8) (far : Nat) : ∀ (m at' : Nat), at' ≤ b.length → rep b at' far m ≤ b.length - at'
  | 0, _, _ => Nat.zero_le _
  | m + 1, at', h => by
    unfold rep
    split
    · rename_i hh
      have := rep_len b far m (at' + 1) hh.1; omega
    · omega

theorem u8_ne (a b : UInt8) : ((a.toNat : Int) == (b.toNat : Int)) = (a == b) := by
  rw [Bool.eq_iff_iff]
  simp only [beq_iff_eq, u8_inj]

theorem lz_Match_eq (b : List UInt8) (at' far most : Int) (hb : b.length ≤ 140737488355328) (hm : most ≤ 9223372036854775807) : lz_Match b at' far most = some (matchS b at' far most) := by
  unfold lz_Match matchS
  by_cases hc : at' < 0 ∨ at' ≥ b.length ∨ far < 1 ∨ far > at'
  · rw [if_pos hc, if_pos (by simpa [or_assoc] using hc)]
  · rw [if_neg hc, if_neg (by simpa [or_assoc] using hc)]
    have hc' : 0 ≤ at' ∧ at' < b.length ∧ 1 ≤ far ∧ far ≤ at' := by omega
    obtain ⟨a, rfl⟩ := Int.eq_ofNat_of_zero_le hc'.1
    obtain ⟨f, rfl⟩ := Int.eq_ofNat_of_zero_le (show 0 ≤ far by omega)
    rw [jn_id]
    refine iter_eq (fun (n : Int) => ∃ k : Nat, n = (k : Int) ∧ a + k ≤ b.length ∧ k ≤ most.toNat ∧ rep b a f most.toNat = k + rep b (a + k) f (most.toNat - k)) (fun (n : Int) => b.length - n.toNat) ⟨0, rfl, by omega, by omega, by simp⟩ (by simp; omega) ?_
    rintro n ⟨k, rfl, h1, h2, h3⟩
    have w1 : w64 ((a : Int) + (k : Int)) = ((a + k : Nat) : Int) := by rw [w64_id (by omega) (by omega)]; omega
    have w2 : w64 (((a + k : Nat) : Int) - (f : Int)) = ((a + k - f : Nat) : Int) := by rw [w64_id (by omega) (by omega)]; omega
    have w3 : w64 ((k : Int) + 1) = ((k + 1 : Nat) : Int) := by rw [w64_id (by omega) (by omega)]; omega
    simp only [w1, w2, w3, u8_ne]
    by_cases hk : (k : Int) < most ∧ a + k < b.length
    · have hd : (decide ((k : Int) < most) && decide (((a + k : Nat) : Int) < (b.length : Int))) = true := by simp; omega
      rw [need_pos (by intro _; omega), need_pos (by intro _; omega)]
      simp only [hd, Bool.true_and]
      have hx : most.toNat - k = (most.toNat - (k + 1)) + 1 := by omega
      rw [ix_nat (show a + k < b.length by omega), ix_nat (show a + k - f < b.length by omega)]
      by_cases he : b[a + k] = b[a + k - f]'(by omega)
      · left
        refine ⟨_, by rw [if_pos (by simpa using he)], ⟨k + 1, rfl, by omega, by omega, ?_⟩, ?_⟩
        · rw [h3, hx]
          show k + rep b (a + k) f (most.toNat - (k + 1) + 1) = _
          rw [rep, if_pos ⟨by omega, by rw [List.getElem?_eq_getElem (by omega), List.getElem?_eq_getElem (by omega), he]⟩]
          rw [show a + k + 1 = a + (k + 1) by omega]; omega
        · simp; omega
      · right
        rw [if_neg (by simpa using he)]
        rw [Int.toNat_natCast, Int.toNat_natCast, h3, hx, rep, if_neg (by
          rintro ⟨_, h⟩
          rw [List.getElem?_eq_getElem (by omega), List.getElem?_eq_getElem (by omega)] at h
          exact he (Option.some.inj h))]
        simp
    · have hd : (decide ((k : Int) < most) && decide (((a + k : Nat) : Int) < (b.length : Int))) = false := by
        simp; omega
      right
      simp only [hd, Bool.false_and, Bool.false_eq_true, false_implies]
      rw [need_true, need_true, if_neg (by simp)]
      rw [Int.toNat_natCast, Int.toNat_natCast, h3]
      have : rep b (a + k) f (most.toNat - k) = 0 := by
        cases hm0 : most.toNat - k with
        | zero => rfl
        | succ m => rw [rep, if_neg (by omega)]
      rw [this]; simp

theorem ref06_Match_eq (b : List UInt8) (at' far most : Int) (hb : b.length ≤ 140737488355328) (hm : most ≤ 9223372036854775807) : ref06_Match b at' far most = some (matchS b at' far most) := by
  unfold ref06_Match matchS
  by_cases hc : at' < 0 ∨ at' ≥ b.length ∨ far < 1 ∨ far > at'
  · rw [if_pos hc, if_pos (by simpa [or_assoc] using hc)]
  · rw [if_neg hc, if_neg (by simpa [or_assoc] using hc)]
    have hc' : 0 ≤ at' ∧ at' < b.length ∧ 1 ≤ far ∧ far ≤ at' := by omega
    obtain ⟨a, rfl⟩ := Int.eq_ofNat_of_zero_le hc'.1
    obtain ⟨f, rfl⟩ := Int.eq_ofNat_of_zero_le (show 0 ≤ far by omega)
    refine Exists.elim (iter_inv (s0 := ((0 : Int), (a : Int))) (body := fun ((n3, k4) : Int × Int) =>
          if (decide (k4 < (b.length : Int))) && (decide (n3 < most)) then
            need (0 ≤ k4 ∧ k4 < b.length) <|
            need (0 ≤ w64 (k4 - f) ∧ w64 (k4 - f) < b.length) <|
            if ((ix b k4).toNat : Int) != ((ix b (w64 (k4 - f))).toNat : Int) then
              (some (.inr (.inr n3)) : Option ((Int × Int) ⊕ (Int ⊕ Int)))
            else
              some (.inl (w64 (n3 + 1), w64 (k4 + 1)))
          else
            some (.inr (.inl n3)))
      (fun (s : Int × Int) => ∃ k : Nat, s = ((k : Int), ((a + k : Nat) : Int)) ∧ a + k ≤ b.length ∧ k ≤ most.toNat ∧ rep b a f most.toNat = k + rep b (a + k) f (most.toNat - k)) (fun (s : Int × Int) => b.length - s.1.toNat)
      (fun (o : Int ⊕ Int) => o = .inl ((rep b a f most.toNat : Nat) : Int) ∨ o = .inr ((rep b a f most.toNat : Nat) : Int)) ⟨0, by simp, by omega, by omega, by simp⟩ (by simp; omega) ?_) ?_
    rotate_left
    · rintro o ⟨h1, h2⟩
      rw [h1]
      rcases h2 with rfl | rfl <;> simp
    · rintro ⟨n, k4⟩ ⟨k, hs, h1, h2, h3⟩
      injection hs with hs1 hs2
      subst hs1; subst hs2
      have w2 : w64 (((a + k : Nat) : Int) - (f : Int)) = ((a + k - f : Nat) : Int) := by rw [w64_id (by omega) (by omega)]; omega
      have w3 : w64 ((k : Int) + 1) = ((k + 1 : Nat) : Int) := by rw [w64_id (by omega) (by omega)]; omega
      have w4 : w64 (((a + k : Nat) : Int) + 1) = ((a + (k + 1) : Nat) : Int) := by rw [w64_id (by omega) (by omega)]; omega
      simp only [w2, w3, w4]
      by_cases hk : (k : Int) < most ∧ a + k < b.length
      · have hx : most.toNat - k = (most.toNat - (k + 1)) + 1 := by omega
        rw [if_pos (by simp; omega), need_pos (by omega), need_pos (by omega)]
        rw [ix_nat (show a + k < b.length by omega), ix_nat (show a + k - f < b.length by omega)]
        by_cases he : b[a + k] = b[a + k - f]'(by omega)
        · refine ⟨.inl (((k + 1 : Nat) : Int), ((a + (k + 1) : Nat) : Int)), by rw [if_neg (by simp [he])], ⟨k + 1, rfl, by omega, by omega, ?_⟩, by simp; omega⟩
          rw [h3, hx, rep, if_pos ⟨by omega, by rw [List.getElem?_eq_getElem (by omega), List.getElem?_eq_getElem (by omega), he]⟩]
          rw [show a + k + 1 = a + (k + 1) by omega]; omega
        · refine ⟨.inr (.inr (k : Int)), by rw [if_pos (by simpa [u8_inj] using he)], Or.inr ?_⟩
          rw [h3, hx, rep, if_neg (by
            rintro ⟨_, h⟩
            rw [List.getElem?_eq_getElem (by omega), List.getElem?_eq_getElem (by omega)] at h
            exact he (Option.some.inj h))]
          simp
      · rw [if_neg (by simp; omega)]
        refine ⟨.inr (.inl (k : Int)), rfl, Or.inl ?_⟩
        have : rep b (a + k) f (most.toNat - k) = 0 := by
          cases hm0 : most.toNat - k with
          | zero => rfl
          | succ m => rw [rep, if_neg (by omega)]
        rw [h3, this]; simp

theorem law06_LzMatches_true (b : List UInt8) (n : arr3_Int) (hn : n.a2 ≤ 9223372036854775807) : law06_LzMatches b n = some true := by
  unfold law06_LzMatches
  by_cases h : (b.length : Int) > 3000
  · rw [if_pos (by simpa using h), law06_works_true]; rfl
  · rw [if_neg (by simpa using h), lz_Match_eq _ _ _ _ (by omega) hn, ref06_Match_eq _ _ _ _ (by omega) hn, law06_works_true]
    simp
end Go.AB
