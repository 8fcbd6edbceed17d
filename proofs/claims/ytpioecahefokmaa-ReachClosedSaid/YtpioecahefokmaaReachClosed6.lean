/- The law ReachClosed returns true for every input; each argument reads behind the call as it read before. No condition. -/
import Derived.Test.YtpioecahefokmaaReachClosed5
import Derived.Test.YtpioecahefokmaaReachClosed4
import Derived.ProofKit
import Derived.OpenShut
import Derived.ChangeCalls
import Derived.Test.YtpioecahefokmaaRows
import Derived.JoinedCond
set_option linter.unusedSimpArgs false
set_option linter.unusedVariables false
section
namespace Go.AB
open Go

/-- A search for a name ends, within the dictionary. -/
theorem value_find_some (v : api_Value) (key : Str) (h : (v.L.length : Int) ≤ 4611686018427387904) : ∃ r, value_find v key = some r ∧ -1 ≤ r ∧ r < v.L.length := by
  by_cases hk : (v.Kind != 7) = true
  · refine ⟨-1, ?_, by omega, by omega⟩
    unfold value_find; rw [if_pos hk]
  · have hit : ∃ o : Unit ⊕ Int, iter (fun (i2 : Int) =>
          if decide (i2 < (v.L.length : Int)) then
            need (0 ≤ i2 ∧ i2 < v.L.length) <|
            need ((((ix v.L i2).Kind) == 5) = true → 0 ≤ i2 ∧ i2 < v.L.length) <|
            if (((ix v.L i2).Kind) == 5) && (((ix v.L i2).S).b == key.b) then
              some (.inr (.inr i2))
            else
              some (.inl (w64 (i2 + 2)))
          else
            some (.inr (.inl ()))) 0 = some o ∧ (∀ r, o = .inr r → 0 ≤ r ∧ r < v.L.length) := by
      refine iter_inv (fun i => 0 ≤ i) (fun i => ((v.L.length : Int) - i).toNat) _ (Int.le_refl 0) (by omega) fun i hi => ?_
      by_cases hl : i < (v.L.length : Int)
      · rw [if_pos (by simpa using hl), need_pos ⟨hi, hl⟩, need_pos (fun _ => ⟨hi, hl⟩)]
        split
        · refine ⟨_, rfl, ?_⟩
          rintro r e; injection e with e; subst e; exact ⟨hi, hl⟩
        · refine ⟨_, rfl, ?_⟩
          show 0 ≤ w64 (i + 2) ∧ ((v.L.length : Int) - w64 (i + 2)).toNat < ((v.L.length : Int) - i).toNat
          rw [w64_id (by omega) (by omega)]
          exact ⟨by omega, by omega⟩
      · rw [if_neg (by simpa using hl)]
        exact ⟨_, rfl, fun r e => by cases e⟩
    obtain ⟨o, h1, h2⟩ := hit
    unfold value_find
    rw [if_neg hk, h1]
    cases o with
    | inl u => exact ⟨-1, rfl, by omega, by omega⟩
    | inr r => exact ⟨r, rfl, by have := h2 r rfl; omega, by have := h2 r rfl; omega⟩

theorem ref11_Find_eq (v : api_Value) (key : Str) : ref11_Find v key = value_find v key := by
  unfold ref11_Find value_find
  by_cases hk : (v.Kind == 7) = true
  · have hk' : (v.Kind != 7) = false := by rw [bne, hk]; rfl
    simp only [hk, hk', Bool.true_and, Bool.false_eq_true, if_false]
  · have hk2 : (v.Kind == 7) = false := by simpa using hk
    have hk' : (v.Kind != 7) = true := by rw [bne, hk2]; rfl
    rw [iter_eq (o := .inl ()) (fun _ => True) (fun _ => 0) trivial (by decide) fun i _ => .inr (by simp only [hk2, Bool.false_and, Bool.false_eq_true, if_false])]
    simp only [hk', if_true]
    rfl

/-- A value of so many parts at most. -/
def W : Nat → api_Value → Prop
  | 0, _ => False
  | n + 1, v => v.L.length ≤ n ∧ ∀ x ∈ v.L, W n x
theorem W_mono : ∀ (n m : Nat) (v : api_Value), n ≤ m → W n v → W m v
  | 0, _, _, _, h => h.elim
  | n + 1, 0, _, hm, _ => by omega
  | n + 1, m + 1, v, hm, h => ⟨by have := h.1; omega, fun x hx => W_mono n m x (by omega) (h.2 x hx)⟩

/-- The parts of a value, so deep. -/
def cnt : Nat → api_Value → Nat
  | 0, _ => 0
  | n + 1, v => 1 + (v.L.map (cnt n)).sum
theorem cnt_W : ∀ (n m : Nat) (v : api_Value), n ≤ m → W n v → cnt m v = cnt n v
  | 0, _, _, _, h => h.elim
  | n + 1, 0, _, hm, _ => by omega
  | n + 1, m + 1, v, hm, h => by
    show 1 + (v.L.map (cnt m)).sum = 1 + (v.L.map (cnt n)).sum
    rw [List.map_congr_left fun x hx => cnt_W n m x (by omega) (h.2 x hx)]
theorem few (fuel : Nat) : ∀ (v : api_Value) (left : Int), 0 ≤ left → left < fuel → left ≤ 4611686018427387904 → ∃ r, ref11_Few fuel v left = some r ∧ -1 ≤ r ∧ r < left ∧ (0 ≤ r → W left.toNat v ∧ (cnt left.toNat v : Int) ≤ left - r) := by
  induction fuel with
  | zero => intro v left h0 h1; omega
  | succ fuel ih =>
    intro v left h0 h1 h2
    rw [ref11_Few]
    have hit : ∃ o : Int, iter (fun ((left2, k3) : Int × Int) =>
        if (decide (k3 < (v.L.length : Int))) && (decide (left2 ≥ 0)) then
          need (0 ≤ k3 ∧ k3 < v.L.length) <|
          bnd (ref11_Few fuel (ix v.L k3) left2) fun r5 =>
          some (.inl (r5, w64 (k3 + 1)))
        else
          some (.inr left2)) (w64 (left - 1), 0) = some o ∧ (-1 ≤ o ∧ o < left ∧ (0 ≤ o → W left.toNat v ∧ (cnt left.toNat v : Int) ≤ left - o)) := by
      rw [w64_id (by omega) (by omega)]
      refine iter_inv (fun s => 0 ≤ s.2 ∧ -1 ≤ s.1 ∧ s.2 + s.1 ≤ left - 1 ∧ s.2 ≤ (v.L.length : Int) ∧ (0 ≤ s.1 → (∀ j : Nat, (j : Int) < s.2 → W (left - 1).toNat (ix v.L (j : Int))) ∧ (((v.L.take s.2.toNat).map (cnt (left - 1).toNat)).sum : Int) ≤ left - 1 - s.1)) (fun s => (s.1 + 1).toNat) _ ?h (by show (left - 1 + 1).toNat < _; omega) ?s
      case h => exact ⟨Int.le_refl 0, by show -1 ≤ left - 1; omega, by show 0 + (left - 1) ≤ left - 1; omega, by show (0 : Int) ≤ _; omega, fun _ => ⟨fun j hj => by have : (j : Int) < 0 := hj; omega, by show (0 : Int) ≤ left - 1 - (left - 1); omega⟩⟩
      case s =>
        intro s hs
        obtain ⟨l2, k⟩ := s
        obtain ⟨i1, i2, i3, i4, i5⟩ := hs
        simp only at i1 i2 i3 i4 i5
        by_cases hc : k < (v.L.length : Int) ∧ 0 ≤ l2
        · have e : ((decide (k < (v.L.length : Int))) && (decide (l2 ≥ 0))) = true := by simp; exact ⟨hc.1, hc.2⟩
          obtain ⟨r, h3, h4, h5, h6⟩ := ih (ix v.L k) l2 hc.2 (by omega) (by omega)
          simp only [e, if_true]
          rw [need_pos ⟨i1, hc.1⟩, h3, bnd_some]
          refine ⟨_, rfl, ?_⟩
          rw [w64_id (by omega) (by omega)]
          refine ⟨⟨by show 0 ≤ k + 1; omega, h4, by show k + 1 + r ≤ left - 1; omega, by show k + 1 ≤ _; omega, fun hr => ?_⟩, by show (r + 1).toNat < (l2 + 1).toNat; omega⟩
          have hr' : 0 ≤ r := hr
          obtain ⟨i6, i7⟩ := i5 hc.2
          obtain ⟨h7, h8⟩ := h6 hr'
          refine ⟨fun j hj => ?_, ?_⟩
          · have hj' : (j : Int) < k + 1 := hj
            by_cases hjk : (j : Int) < k
            · exact i6 j hjk
            · rw [show (j : Int) = k by omega]
              exact W_mono _ _ _ (by omega) h7
          · have hk : k.toNat < v.L.length := by omega
            show (((v.L.take (k + 1).toNat).map (cnt (left - 1).toNat)).sum : Int) ≤ left - 1 - r
            rw [show (k + 1).toNat = k.toNat + 1 by omega, List.take_succ_eq_append_getElem hk, List.map_append, List.sum_append]
            have e2 : ix v.L k = v.L[k.toNat] := ix_at hk
            rw [e2] at h7 h8
            have e3 := cnt_W l2.toNat (left - 1).toNat _ (by omega) h7
            simp only [List.map_cons, List.map_nil, List.sum_cons, List.sum_nil, Nat.add_zero]
            rw [e3]
            push_cast
            omega
        · have e : ((decide (k < (v.L.length : Int))) && (decide (l2 ≥ 0))) = false := by
            cases h : ((decide (k < (v.L.length : Int))) && (decide (l2 ≥ 0))) with
            | false => rfl
            | true => simp at h; exact (hc ⟨h.1, h.2⟩).elim
          simp only [e, Bool.false_eq_true, if_false]
          refine ⟨_, rfl, i2, by show l2 < left; omega, fun hl => ?_⟩
          have hl' : 0 ≤ l2 := hl
          have hk : k = (v.L.length : Int) := by
            by_cases h : k < (v.L.length : Int)
            · exact (hc ⟨h, hl'⟩).elim
            · omega
          obtain ⟨m, hm⟩ : ∃ m, left.toNat = m + 1 := ⟨left.toNat - 1, by omega⟩
          rw [hm]
          obtain ⟨i6, i7⟩ := i5 hl'
          have em : (left - 1).toNat = m := by omega
          rw [em] at i6 i7
          refine ⟨⟨by omega, fun x hx => ?_⟩, ?_⟩
          · obtain ⟨j, hj, rfl⟩ := List.getElem_of_mem hx
            have := i6 j (by omega)
            rw [ix_nat hj] at this
            exact this
          · rw [hk, show ((v.L.length : Int)).toNat = v.L.length from rfl, List.take_length] at i7
            show ((1 + (v.L.map (cnt m)).sum : Nat) : Int) ≤ left - l2
            push_cast
            omega
    obtain ⟨o, h3, h4⟩ := hit
    rw [h3]
    exact ⟨o, rfl, h4⟩


end Go.AB
end

section
namespace Go.AB
open Go

/-- A number more, unless it is there. -/
def add1 (l : List Int) (n : Int) : List Int := if l.contains n then l else l ++ [n]
theorem add1_len (l : List Int) (n : Int) : (add1 l n).length ≤ l.length + 1 := by
  unfold add1; split <;> simp
theorem add1_nodup {l : List Int} (h : l.Nodup) (n : Int) : (add1 l n).Nodup := by
  unfold add1
  split
  · exact h
  · rename_i hc
    rw [List.nodup_append]
    refine ⟨h, List.nodup_cons.2 ⟨by simp, List.nodup_nil⟩, fun a ha b hb e => ?_⟩
    rw [List.mem_singleton] at hb
    subst hb; subst e
    exact hc (by simpa using ha)
/-- The numbers that a value refers to, each once, as they are met. -/
def refsL : Nat → api_Value → List Int → List Int
  | 0, _, l => l
  | n + 1, v, l =>
    if v.Kind == 8 then add1 l v.N
    else if (v.Kind == 6) || (v.Kind == 7) then v.L.foldl (fun l x => refsL n x l) l else l
theorem foldl_len {f : List Int → api_Value → List Int} {g : api_Value → Nat} (h : ∀ l x, (f l x).length ≤ l.length + g x) : ∀ (L : List api_Value) (l : List Int), (L.foldl f l).length ≤ l.length + (L.map g).sum
  | [], l => by simp
  | x :: L, l => by
    have h1 := foldl_len h L (f l x)
    have h2 := h l x
    simp only [List.foldl_cons, List.map_cons, List.sum_cons]
    omega
theorem refsL_len : ∀ (n : Nat) (v : api_Value) (l : List Int), (refsL n v l).length ≤ l.length + cnt n v
  | 0, v, l => by simp [refsL]
  | n + 1, v, l => by
    have h0 := add1_len l v.N
    have h1 := foldl_len (f := fun l x => refsL n x l) (g := cnt n) (fun l x => refsL_len n x l) v.L l
    have e : cnt (n + 1) v = 1 + (v.L.map (cnt n)).sum := rfl
    unfold refsL
    split
    · omega
    · split <;> omega
theorem foldl_nodup {f : List Int → api_Value → List Int} (h : ∀ l x, l.Nodup → (f l x).Nodup) : ∀ (L : List api_Value) (l : List Int), l.Nodup → (L.foldl f l).Nodup
  | [], l, hl => hl
  | x :: L, l, hl => foldl_nodup h L _ (h l x hl)
theorem refsL_nodup : ∀ (n : Nat) (v : api_Value) (l : List Int), l.Nodup → (refsL n v l).Nodup
  | 0, v, l, h => h
  | n + 1, v, l, h => by
    unfold refsL
    split
    · exact add1_nodup h _
    · split
      · exact foldl_nodup (fun l x => refsL_nodup n x l) _ _ h
      · exact h
theorem sum_take (L : List api_Value) (g : api_Value → Nat) (k : Nat) (hk : k < L.length) : ((L.take k).map g).sum + g L[k] ≤ (L.map g).sum := by
  have e : L.map g = (L.take k).map g ++ (L.drop k).map g := by rw [← List.map_append, List.take_append_drop]
  rw [e, List.sum_append, List.drop_eq_getElem_cons hk, List.map_cons, List.sum_cons]
  omega

theorem has_eq (l : List Int) (n : Int) (hb : l.length < 4611686018427387904) : ref11_has l n = some (l.contains n) := by
  unfold ref11_has
  have step : ∀ k (hk : k < l.length), ix l (k : Int) = l[k] := fun k hk => ix_at (i := (k : Int)) hk
  cases h : l.findIdx? (· == n) with
  | none =>
    rw [List.findIdx?_eq_none_iff] at h
    have hc : l.contains n = false := by
      rw [List.contains_eq_mem]
      exact decide_eq_false fun hm => by have := h n hm; simp at this
    rw [hc]
    refine jnS_of (z := .inl ()) (bndS_of (z := .inl ()) (iter_cnt l.length hb (fun k hk => ?_) ?_) rfl) rfl
    · refine if_of (decide_eq_true (by omega)) (need_of ⟨by omega, by omega⟩ ?_)
      rw [step k hk, if_neg (by rw [h _ (List.getElem_mem hk)]; simp)]
    · exact if_not (by simp) rfl
  | some i =>
    rw [List.findIdx?_eq_some_iff_getElem] at h
    obtain ⟨hi, h1, h2⟩ := h
    have hc : l.contains n = true := by
      rw [List.contains_eq_mem]
      exact decide_eq_true (by rw [← eq_of_beq h1]; exact List.getElem_mem hi)
    rw [hc]
    refine jnS_of (z := .inr true) (bndS_of (z := .inr true) (iter_cnt i (by omega) (fun k hk => ?_) ?_) rfl) rfl
    · refine if_of (decide_eq_true (by omega)) (need_of ⟨by omega, by omega⟩ ?_)
      rw [step k (by omega), if_neg (h2 k hk)]
    · refine if_of (decide_eq_true (by omega)) (need_of ⟨by omega, by omega⟩ ?_)
      rw [step i hi, if_pos h1]

theorem more_eq : ∀ (n : Nat) (v : api_Value) (fuel : Nat) (l : List Int), W n v → n ≤ fuel → (l.length + cnt n v) * 8 ≤ room → ref11_more fuel l v = some (refsL n v l)
  | 0, _, _, _, h, _, _ => h.elim
  | n + 1, _, 0, _, _, h, _ => by omega
  | n + 1, v, fuel + 1, l, h, hf, hr => by
    have hr' := hr
    have ec : cnt (n + 1) v = 1 + (v.L.map (cnt n)).sum := rfl
    unfold room at hr'
    have hlen : v.L.length < 4611686018427387904 := by
      have : ∀ L : List api_Value, (∀ x ∈ L, W n x) → L.length ≤ (L.map (cnt n)).sum := fun L hL => by
        induction L with
        | nil => simp
        | cons x L ih =>
          have h1 := ih fun y hy => hL y (List.mem_cons_of_mem _ hy)
          have h2 : 1 ≤ cnt n x := by
            have := hL x (List.mem_cons_self ..)
            cases n with
            | zero => exact this.elim
            | succ n => show 1 ≤ 1 + _; omega
          simp only [List.length_cons, List.map_cons, List.sum_cons]; omega
      have := this v.L h.2
      omega
    rw [ref11_more]
    by_cases h8 : (v.Kind == 8) = true
    · have h6 : (v.Kind == 6 || v.Kind == 7) = false := by
        rw [eq_of_beq h8]; rfl
      rw [h8, whenB_t, has_eq l v.N (by omega), bnd_some]
      have er : refsL (n + 1) v l = add1 l v.N := by unfold refsL; rw [if_pos h8]
      rw [er]
      unfold add1
      cases hc : l.contains v.N with
      | false => exact if_of rfl (need_of (by simp; omega) (need_of (by simp; omega) rfl))
      | true =>
        refine if_not (by simp) (jn_of (a := l) ?_ rfl)
        exact iter_acc 0 (fun _ => l) rfl (by decide) (fun k hk => by omega) (bnd_of (a := false) (by unfold ref11_holds; rw [h6]) rfl)
    · have h8' : (v.Kind == 8) = false := by simpa using h8
      rw [h8', whenB_f, bnd_some]
      refine if_not (by simp) ?_
      cases hh : (v.Kind == 6) || (v.Kind == 7) with
      | false =>
        have er : refsL (n + 1) v l = l := by unfold refsL; rw [if_neg h8, hh]; rfl
        rw [er]
        exact jn_of (a := l) (iter_acc 0 (fun _ => l) rfl (by decide) (fun k hk => by omega) (bnd_of (a := false) (by unfold ref11_holds; rw [hh]) rfl)) rfl
      | true =>
        have er : refsL (n + 1) v l = v.L.foldl (fun l x => refsL n x l) l := by rw [refsL, if_neg h8, hh, if_pos rfl]
        rw [er]
        refine jn_of (a := v.L.foldl (fun l x => refsL n x l) l) ?_ rfl
        refine iter_acc v.L.length (fun k => (v.L.take k).foldl (fun l x => refsL n x l) l) rfl hlen (fun k hk => ?_) ?_
        · refine bnd_of (a := true) (by unfold ref11_holds; rw [hh]) (if_of (by simp; omega) (need_of ⟨by omega, by omega⟩ ?_))
          have e2 : ix v.L (k : Int) = v.L[k] := ix_at (i := (k : Int)) hk
          rw [e2]
          have s1 := sum_take v.L (cnt n) k hk
          have s2 := foldl_len (f := fun l x => refsL n x l) (g := cnt n) (fun l x => refsL_len n x l) (v.L.take k) l
          refine bnd_of (more_eq n v.L[k] fuel _ (h.2 _ (List.getElem_mem hk)) (by omega) (by unfold room; omega)) ?_
          show some _ = some _
          rw [List.take_succ_eq_append_getElem hk, List.foldl_append]
          rfl
        · refine bnd_of (a := true) (by unfold ref11_holds; rw [hh]) (if_not (by simp) ?_)
          rw [List.take_length]

theorem len_cnt {n : Nat} : ∀ (L : List api_Value), (∀ x ∈ L, W n x) → L.length ≤ (L.map (cnt n)).sum
  | [], _ => by simp
  | x :: L, hL => by
    have h1 := len_cnt L fun y hy => hL y (List.mem_cons_of_mem _ hy)
    have h2 : 1 ≤ cnt n x := by
      have := hL x (List.mem_cons_self ..)
      cases n with
      | zero => exact this.elim
      | succ n => show 1 ≤ 1 + _; omega
    simp only [List.length_cons, List.map_cons, List.sum_cons]; omega
theorem mfind_put (m : List (Int × Bool)) (a k : Int) : mfind (mput m a true) k = if a = k then some true else mfind m k := by
  induction m with
  | nil =>
    show (bif k == a then some true else none) = _
    by_cases e : a = k
    · subst e; simp
    · rw [if_neg e]
      have : (k == a) = false := by rw [beq_eq_false_iff_ne]; exact fun h => e h.symm
      rw [this]; rfl
  | cons x m ih =>
    obtain ⟨c, b⟩ := x
    show mfind (bif a == c then (a, true) :: m else (c, b) :: mput m a true) k = _
    by_cases e : a = c
    · subst e
      rw [show (a == a) = true by simp, cond_true]
      show (bif k == a then some true else mfind m k) = if a = k then some true else (bif k == a then some b else mfind m k)
      by_cases e2 : a = k
      · subst e2; simp
      · rw [if_neg e2]
        have : (k == a) = false := by rw [beq_eq_false_iff_ne]; exact fun h => e2 h.symm
        rw [this]; rfl
    · have e1 : (a == c) = false := by rw [beq_eq_false_iff_ne]; exact e
      rw [e1, cond_false]
      show (bif k == c then some b else mfind (mput m a true) k) = if a = k then some true else (bif k == c then some b else mfind m k)
      rw [ih]
      by_cases e2 : a = k
      · subst e2; rw [e1]; simp
      · rw [if_neg e2, if_neg e2]
/-- What the map says of the numbers met. -/
def Seen (m : List (Int × Bool)) (l : List Int) : Prop := ∀ k, mget false m k = l.contains k
theorem Seen.add {m : List (Int × Bool)} {l : List Int} (h : Seen m l) (n : Int) : Seen (mput m n true) (l ++ [n]) := fun k => by
  have := h k
  unfold mget at this ⊢
  rw [mfind_put, List.contains_eq_mem]
  rw [List.contains_eq_mem] at this
  by_cases e : n = k
  · subst e; simp
  · rw [if_neg e, this]
    have e' : ¬ k = n := fun h => e h.symm
    simp [e']
theorem refs1_eq (v : api_Value) (m : List (Int × Bool)) (l : List Int) (hs : Seen m l) (hr : (l.length + 1) * 8 ≤ room) :
    ∃ m', value_Refs_1 v m l = some (true, m', if v.Kind == 8 then add1 l v.N else l) ∧ Seen m' (if v.Kind == 8 then add1 l v.N else l) := by
  unfold value_Refs_1
  by_cases h8 : (v.Kind == 8) = true
  · rw [if_pos h8]
    unfold add1
    rw [hs v.N]
    cases hc : l.contains v.N with
    | true =>
      refine ⟨m, ?_, by simpa using hs⟩
      exact jn_of (a := (m, l)) (if_not (by simp) rfl) rfl
    | false =>
      refine ⟨mput m v.N true, ?_, by simpa using hs.add v.N⟩
      refine jn_of (a := (mput m v.N true, l ++ [v.N])) (if_of (by simp [h8]) (need_of (by simpa using hr) rfl)) rfl
  · rw [if_neg h8]
    have h8' : (v.Kind == 8) = false := by simpa using h8
    refine ⟨m, jn_of (a := (m, l)) (if_not (by simp [h8']) rfl) rfl, hs⟩
theorem walk_eq : ∀ (n : Nat) (v : api_Value) (fuel : Nat) (m : List (Int × Bool)) (l : List Int), W n v → n ≤ fuel → Seen m l → (l.length + cnt n v) * 8 ≤ room → ∃ m', value_walk fuel v m l = some (true, m', refsL n v l) ∧ Seen m' (refsL n v l)
  | 0, _, _, _, _, h, _, _, _ => h.elim
  | n + 1, _, 0, _, _, _, h, _, _ => by omega
  | n + 1, v, fuel + 1, m, l, h, hf, hs, hr => by
    have hr' := hr
    have ec : cnt (n + 1) v = 1 + (v.L.map (cnt n)).sum := rfl
    unfold room at hr'
    obtain ⟨m1, h1, h2⟩ := refs1_eq v m l hs (by unfold room; omega)
    rw [value_walk, h1, bnd_some]
    by_cases h8 : (v.Kind == 8) = true
    · rw [if_pos h8] at h2 ⊢
      have er : refsL (n + 1) v l = add1 l v.N := by rw [refsL, if_pos h8]
      rw [er]
      refine ⟨m1, ?_, h2⟩
      have e8 := eq_of_beq h8
      exact if_not (by simp) (if_of (by rw [e8]; rfl) rfl)
    · rw [if_neg h8] at h2 ⊢
      cases hh : (v.Kind == 6) || (v.Kind == 7) with
      | false =>
        have er : refsL (n + 1) v l = l := by rw [refsL, if_neg h8, hh]; rfl
        rw [er]
        refine ⟨m1, ?_, h2⟩
        refine if_not (by simp) (if_of ?_ rfl)
        rw [Bool.or_eq_false_iff] at hh
        rw [bne, bne, hh.1, hh.2]; rfl
      | true =>
        have er : refsL (n + 1) v l = v.L.foldl (fun l x => refsL n x l) l := by rw [refsL, if_neg h8, hh, if_pos rfl]
        rw [er]
        have hlen := len_cnt v.L h.2
        have hit := iter_inv (body := fun ((t7, o8, o9) : Int × (List (Int × Bool)) × (List Int)) =>
              if decide (t7 < (v.L.length : Int)) then
                need (0 ≤ t7 ∧ t7 < v.L.length) <|
                bnd (value_walk fuel (ix v.L t7) o8 o9) fun r15 =>
                if !r15.1 then
                  some (.inr (.inr (false, r15.2.1, r15.2.2)))
                else
                  some (.inl (w64 (t7 + 1), r15.2.1, r15.2.2))
              else
                some (.inr (.inl (o8, o9)))) (s0 := (0, m1, l))
            (fun s => ∃ k : Nat, s.1 = (k : Int) ∧ k ≤ v.L.length ∧ s.2.2 = (v.L.take k).foldl (fun l x => refsL n x l) l ∧ Seen s.2.1 s.2.2)
            (fun s => ((v.L.length : Int) - s.1).toNat)
            (fun o => ∃ m', o = (.inl (m', v.L.foldl (fun l x => refsL n x l) l) : (List (Int × Bool) × List Int) ⊕ (Bool × List (Int × Bool) × List Int)) ∧ Seen m' (v.L.foldl (fun l x => refsL n x l) l))
            ⟨0, rfl, Nat.zero_le _, rfl, h2⟩ (by show ((v.L.length : Int) - 0).toNat < _; omega) (by
              rintro ⟨t, mm, ll⟩ ⟨k, e1, e2, e3, e4⟩
              simp only at e1 e3 e4
              subst e1; subst e3
              by_cases hk : k < v.L.length
              · have e5 : ix v.L (k : Int) = v.L[k] := ix_at (i := (k : Int)) hk
                have s1 := sum_take v.L (cnt n) k hk
                have s2 := foldl_len (f := fun l x => refsL n x l) (g := cnt n) (fun l x => refsL_len n x l) (v.L.take k) l
                obtain ⟨m', g1, g2⟩ := walk_eq n v.L[k] fuel mm _ (h.2 _ (List.getElem_mem hk)) (by omega) e4 (by unfold room; omega)
                refine ⟨_, if_of (decide_eq_true (by omega)) (need_of ⟨by omega, by omega⟩ (bnd_of (by rw [e5]; exact g1) (if_not (by simp) rfl))), ?_⟩
                have hw : w64 ((k : Int) + 1) = ((k + 1 : Nat) : Int) := by rw [w64_id (by omega) (by omega)]; omega
                refine ⟨⟨k + 1, hw, hk, ?_, g2⟩, ?_⟩
                · rw [List.take_succ_eq_append_getElem hk, List.foldl_append]; rfl
                · show ((v.L.length : Int) - w64 ((k : Int) + 1)).toNat < ((v.L.length : Int) - k).toNat
                  rw [hw]; omega
              · obtain rfl : k = v.L.length := by omega
                refine ⟨_, if_not (by simp) rfl, mm, ?_, ?_⟩
                · rw [List.take_length]
                · rw [List.take_length] at e4; exact e4)
        obtain ⟨o, i1, m', i2, i3⟩ := hit
        subst i2
        refine ⟨m', ?_, i3⟩
        refine if_not (by simp) (if_not ?_ (jnS_of (z := .inl (m', v.L.foldl (fun l x => refsL n x l) l)) (bndS_of i1 rfl) rfl))
        rw [bne, bne]
        rcases Bool.or_eq_true .. ▸ hh with h | h <;> rw [h] <;> simp
end Go.AB
end

section
namespace Go.AB
open Go

def Few3 (v : api_Value) : Prop := W 300 v ∧ cnt 300 v ≤ 300
def rs3 (v : api_Value) : List Int := refsL 300 v []
theorem rs3_len {v : api_Value} (h : Few3 v) : (rs3 v).length ≤ 300 := by
  have := refsL_len 300 v []
  have := h.2
  unfold rs3
  simp only [List.length_nil] at *
  omega
theorem refs_eq {v : api_Value} (h : Few3 v) : value_Refs v = some (rs3 v) := by
  obtain ⟨m', h1, _⟩ := walk_eq 300 v bigN [] [] h.1 (by decide) (fun k => rfl) (by have := h.2; unfold room; simp only [List.length_nil]; omega)
  exact bnd_of h1 rfl
theorem rrefs_eq {v : api_Value} (h : Few3 v) : ref11_Refs v = some (rs3 v) :=
  bnd_of (more_eq 300 v bigN [] h.1 (by decide) (by have := h.2; unfold room; simp only [List.length_nil]; omega)) rfl
theorem kept_len (l : List Int) : (kept l).length ≤ l.length := List.length_filter_le _ _
theorem next_eq {v : api_Value} (h : Few3 v) : reach_Next v = some (kept (rs3 v)) :=
  bnd_of (refs_eq h) (need_of (by have := rs3_len h; unfold room; omega) rfl)
theorem kept_succ {l : List Int} {k : Nat} (hk : k < l.length) : kept (l.take (k + 1)) = kept (l.take k) ++ (if gone l[k] then [] else [l[k]]) := by
  unfold kept
  rw [List.take_succ_eq_append_getElem hk, List.filter_append]
  cases hg : gone l[k] <;> simp [hg]
theorem rnext_eq {v : api_Value} (h : Few3 v) : ref21_Next v = some (kept (rs3 v)) := by
  have hl := rs3_len h
  refine bnd_of (rrefs_eq h) ?_
  generalize rs3 v = l at hl
  refine jn_of (a := kept l) ?_ rfl
  refine iter_acc l.length (fun k => kept (l.take k)) rfl (by omega) (fun k hk => ?_) ?_
  · have e : ix l (k : Int) = l[k] := ix_at (i := (k : Int)) hk
    have hkl := kept_len (l.take k)
    rw [List.length_take] at hkl
    refine if_of (decide_eq_true (by omega)) (jn_of (a := kept (l.take (k + 1))) (need_of ⟨by omega, by omega⟩ (need_of (fun _ => ⟨by omega, by omega⟩) ?_)) rfl)
    rw [kept_succ hk, e]
    have hg : ((decide (l[k] ≥ 1)) && (decide (l[k] ≤ 4096))) = !gone l[k] := by
      unfold gone
      rw [Bool.eq_iff_iff]
      simp
    rw [hg]
    cases gone l[k] with
    | true => exact if_not (by simp) (by simp)
    | false => exact if_of (by simp) (need_of ⟨by omega, by omega⟩ (need_of (by simp only [List.length_cons, List.length_nil]; unfold room; omega) rfl))
  · refine if_not (by simp) ?_
    rw [List.take_length]
theorem same_eq (a : List Int) (hb : a.length < 4611686018427387904) : ref21_Same a a = some true := by
  unfold ref21_Same
  refine if_not (by simp) (jnS_of (z := .inl ()) (bndS_of (z := .inl ()) (iter_cnt a.length hb (fun k hk => ?_) ?_) rfl) rfl)
  · exact if_of (decide_eq_true (by omega)) (need_of ⟨by omega, by omega⟩ (need_of ⟨by omega, by omega⟩ (if_not (by simp) rfl)))
  · exact if_not (by simp) rfl
theorem sum_drop (L : List api_Value) (g : api_Value → Nat) (i : Nat) : ((L.drop i).map g).sum ≤ (L.map g).sum := by
  have e : L.map g = (L.take i).map g ++ (L.drop i).map g := by rw [← List.map_append, List.take_append_drop]
  rw [e, List.sum_append]; omega
theorem drop_eq {v : api_Value} (h : Few3 v) (key : Str) : ∃ v', value_Drop v key = some v' ∧ ref11_Drop v key = some v' ∧ Few3 v' := by
  have hlen : v.L.length ≤ 299 := h.1.1
  obtain ⟨r, h1, h2, h3⟩ := value_find_some v key (by omega)
  by_cases h0 : r < 0
  · exact ⟨v, bnd_of h1 (if_of (decide_eq_true h0) rfl), bnd_of ((ref11_Find_eq v key).trans h1) (if_of (decide_eq_true h0) rfl), h⟩
  · obtain ⟨i, rfl⟩ : ∃ i : Nat, r = (i : Int) := ⟨r.toNat, by omega⟩
    have hi : i < v.L.length := by omega
    have hsum : ((v.L.take i ++ v.L.drop (min (i + 2) v.L.length)).map (cnt 299)).sum ≤ (v.L.map (cnt 299)).sum := by
      have e : v.L.map (cnt 299) = (v.L.take i).map (cnt 299) ++ (v.L.drop i).map (cnt 299) := by rw [← List.map_append, List.take_append_drop]
      have e2 : v.L.drop (min (i + 2) v.L.length) = (v.L.drop i).drop (min (i + 2) v.L.length - i) := by rw [List.drop_drop]; congr 1; omega
      have := sum_drop (v.L.drop i) (cnt 299) (min (i + 2) v.L.length - i)
      rw [e, List.map_append, List.sum_append, List.sum_append, e2]
      omega
    refine ⟨⟨v.Kind, v.N, v.S, v.L.take i ++ v.L.drop (min (i + 2) v.L.length)⟩, ?_, ?_, ?_, ?_⟩
    · exact bnd_of h1 (if_not (by simp) (need_of ⟨by omega, by omega, by unfold room; omega⟩ rfl))
    · have hw : w64 ((i : Int) + 2) = ((i + 2 : Nat) : Int) := by rw [w64_id (by omega) (by omega)]; omega
      have p0 : part v.L 0 (i : Int) = v.L.take i := by
        show (v.L.drop 0).take ((i : Int) - 0).toNat = _
        rw [Int.sub_zero]; rfl
      have hl0 : (v.L.take i).length ≤ 299 := by rw [List.length_take]; omega
      refine bnd_of ((ref11_Find_eq v key).trans h1) (if_not (by simp) (need_of ⟨by omega, by omega, by omega⟩ ?_))
      rw [p0, hw]
      refine need_of (by simp only [List.length_nil]; unfold room; omega) ?_
      refine jn_of (a := v.L.take i ++ v.L.drop (min (i + 2) v.L.length)) ?_ rfl
      by_cases h4 : i + 2 < v.L.length
      · have p1 : part v.L ((i + 2 : Nat) : Int) (v.L.length : Int) = v.L.drop (i + 2) := by
          show (v.L.drop (i + 2)).take (((v.L.length : Int) - ((i + 2 : Nat) : Int)).toNat) = _
          exact List.take_of_length_le (by rw [List.length_drop]; omega)
        rw [p1, Nat.min_eq_left (by omega)]
        have hl1 : (v.L.drop (i + 2)).length ≤ 299 := by rw [List.length_drop]; omega
        exact if_of (decide_eq_true (by omega)) (need_of ⟨by omega, by omega, by omega⟩ (need_of (by unfold room; omega) rfl))
      · rw [Nat.min_eq_right (by omega), List.drop_length, List.append_nil]
        exact if_not (by simp; omega) rfl
    · refine ⟨?_, fun x hx => ?_⟩
      · show (v.L.take i ++ v.L.drop (min (i + 2) v.L.length)).length ≤ 299
        rw [List.length_append, List.length_take, List.length_drop]; omega
      · rcases List.mem_append.1 hx with hx | hx
        · exact h.1.2 x (List.mem_of_mem_take hx)
        · exact h.1.2 x (List.mem_of_mem_drop hx)
    · have e : cnt 300 v = 1 + (v.L.map (cnt 299)).sum := rfl
      have h2 := h.2
      show 1 + ((v.L.take i ++ v.L.drop (min (i + 2) v.L.length)).map (cnt 299)).sum ≤ 300
      omega
end Go.AB
end

section
namespace Go.AB
open Go

theorem mfindI_put (m : List (Int × Int)) (a b k : Int) : mfind (mput m a b) k = if a = k then some b else mfind m k := by
  induction m with
  | nil =>
    show (bif k == a then some b else none) = _
    by_cases e : a = k
    · subst e; simp
    · rw [if_neg e]
      have : (k == a) = false := by rw [beq_eq_false_iff_ne]; exact fun h => e h.symm
      rw [this]; rfl
  | cons x m ih =>
    obtain ⟨c, d⟩ := x
    show mfind (bif a == c then (a, b) :: m else (c, d) :: mput m a b) k = _
    by_cases e : a = c
    · subst e
      rw [show (a == a) = true by simp, cond_true]
      show (bif k == a then some b else mfind m k) = if a = k then some b else (bif k == a then some d else mfind m k)
      by_cases e2 : a = k
      · subst e2; simp
      · rw [if_neg e2]
        have : (k == a) = false := by rw [beq_eq_false_iff_ne]; exact fun h => e2 h.symm
        rw [this]; rfl
    · have e1 : (a == c) = false := by rw [beq_eq_false_iff_ne]; exact e
      rw [e1, cond_false]
      show (bif k == c then some d else mfind (mput m a b) k) = if a = k then some b else (bif k == c then some d else mfind m k)
      rw [ih]
      by_cases e2 : a = k
      · subst e2; rw [e1]; simp
      · rw [if_neg e2, if_neg e2]
/-- What the row's map says of its list. -/
def InL (m : List (Int × Int)) (l : List Int) : Prop := ∀ k, mhas m k = l.contains k
theorem InL.add {m : List (Int × Int)} {l : List Int} (h : InL m l) (n b : Int) : InL (mput m n b) (l ++ [n]) := fun k => by
  have := h k
  unfold mhas at this ⊢
  rw [mfindI_put, List.contains_eq_mem]
  rw [List.contains_eq_mem] at this
  by_cases e : n = k
  · subst e; simp
  · rw [if_neg e, this]
    have e' : ¬ k = n := fun h => e h.symm
    simp [e']
theorem fold_len : ∀ (xs l : List Int), (xs.foldl add1 l).length ≤ l.length + xs.length
  | [], l => by simp
  | x :: xs, l => by
    have h1 := fold_len xs (add1 l x)
    have h2 := add1_len l x
    simp only [List.foldl_cons, List.length_cons]
    omega
theorem fold_new : ∀ (xs l : List Int), (l ++ xs).Nodup → xs.foldl add1 l = l ++ xs
  | [], l, _ => by simp
  | x :: xs, l, h => by
    have hx : l.contains x = false := by
      rw [List.contains_eq_mem]
      refine decide_eq_false fun hm => ?_
      rw [List.nodup_append] at h
      exact h.2.2 x hm x (List.mem_cons_self ..) rfl
    have e : add1 l x = l ++ [x] := by unfold add1; rw [hx]; rfl
    rw [List.foldl_cons, e, fold_new xs (l ++ [x]) (by rw [List.append_assoc]; exact h), List.append_assoc]
    rfl
theorem put_eq (m : List (Int × Int)) (l xs : List Int) (hs : InL m l) (hr : (l.length + xs.length + 1) * 8 ≤ room) : ∃ m', reach_row_put ⟨l, m⟩ xs = some ⟨xs.foldl add1 l, m'⟩ ∧ InL m' (xs.foldl add1 l) := by
  have hr' := hr
  unfold room at hr'
  have hit := iter_inv (body := fun ((t1, o2) : Int × reach_row) =>
    if decide (t1 < (xs.length : Int)) then
      jn (
        need (0 ≤ t1 ∧ t1 < xs.length) <|
        if !(mhas o2.in_ (ix xs t1)) then
          need ((o2.l_.length + [ix xs t1].length) * 8 ≤ room) <|
          some (reach_row.mk (o2.l_ ++ [ix xs t1]) (mput o2.in_ (ix xs t1) (o2.l_.length : Int)))
        else
          some o2) fun (o7 : reach_row) =>
      some (.inl (w64 (t1 + 1), o7))
    else
      some (.inr o2)) (s0 := (0, ⟨l, m⟩))
    (fun s => ∃ k : Nat, s.1 = (k : Int) ∧ k ≤ xs.length ∧ s.2.l_ = (xs.take k).foldl add1 l ∧ InL s.2.in_ s.2.l_)
    (fun s => ((xs.length : Int) - s.1).toNat)
    (fun o => ∃ m', o = (⟨xs.foldl add1 l, m'⟩ : reach_row) ∧ InL m' (xs.foldl add1 l))
    ⟨0, rfl, Nat.zero_le _, rfl, hs⟩ (by show ((xs.length : Int) - 0).toNat < _; omega) (by
      rintro ⟨t, ll, mm⟩ ⟨k, e1, e2, e3, e4⟩
      simp only at e1 e3 e4
      subst e1; subst e3
      by_cases hk : k < xs.length
      · have e5 : ix xs (k : Int) = xs[k] := ix_at (i := (k : Int)) hk
        have s2 := fold_len (xs.take k) l
        rw [List.length_take] at s2
        have hw : w64 ((k : Int) + 1) = ((k + 1 : Nat) : Int) := by rw [w64_id (by omega) (by omega)]; omega
        have hstep : (xs.take (k + 1)).foldl add1 l = add1 ((xs.take k).foldl add1 l) xs[k] := by
          rw [List.take_succ_eq_append_getElem hk, List.foldl_append]; rfl
        have hμ : ((xs.length : Int) - w64 ((k : Int) + 1)).toNat < ((xs.length : Int) - k).toNat := by rw [hw]; omega
        dsimp only
        rw [e5]
        generalize hA : (xs.take k).foldl add1 l = A at e4 s2 hstep
        cases hc : A.contains xs[k] with
        | true =>
          have ea : add1 A xs[k] = A := by unfold add1; rw [hc]; rfl
          refine ⟨.inl (w64 ((k : Int) + 1), ⟨A, mm⟩), if_of (decide_eq_true (by omega)) (jn_of (a := ⟨A, mm⟩) (need_of ⟨by omega, by omega⟩ (if_not (by rw [e4 xs[k], hc]; simp) rfl)) rfl), ?_, hμ⟩
          exact ⟨k + 1, hw, hk, by rw [hstep, ea], e4⟩
        | false =>
          have ea : add1 A xs[k] = A ++ [xs[k]] := by unfold add1; rw [hc]; rfl
          refine ⟨.inl (w64 ((k : Int) + 1), ⟨A ++ [xs[k]], mput mm xs[k] (A.length : Int)⟩), if_of (decide_eq_true (by omega)) (jn_of (a := ⟨A ++ [xs[k]], mput mm xs[k] (A.length : Int)⟩) (need_of ⟨by omega, by omega⟩ (if_of (by rw [e4 xs[k], hc]; rfl) (need_of (by simp only [List.length_cons, List.length_nil]; unfold room; omega) rfl))) rfl), ?_, hμ⟩
          exact ⟨k + 1, hw, hk, by rw [hstep, ea], e4.add _ _⟩
      · obtain rfl : k = xs.length := by omega
        refine ⟨_, if_not (by simp) rfl, mm, ?_, ?_⟩
        · rw [List.take_length]
        · rw [List.take_length] at e4; exact e4)
  obtain ⟨o, i1, m', i2, i3⟩ := hit
  subst i2
  exact ⟨m', i1, i3⟩
theorem on_eq (l xs : List Int) (hr : (l.length + xs.length + 1) * 8 ≤ room) : ref21_on l xs = some (xs.foldl add1 l) := by
  have hr' := hr
  unfold room at hr'
  unfold ref21_on
  refine need_of (by simp only [List.length_nil]; unfold room; omega) (jn_of (a := xs.foldl add1 l) ?_ rfl)
  refine iter_acc xs.length (fun k => (xs.take k).foldl add1 l) rfl (by omega) (fun k hk => ?_) ?_
  · have e5 : ix xs (k : Int) = xs[k] := ix_at (i := (k : Int)) hk
    have s2 := fold_len (xs.take k) l
    rw [List.length_take] at s2
    have hstep : (xs.take (k + 1)).foldl add1 l = add1 ((xs.take k).foldl add1 l) xs[k] := by
      rw [List.take_succ_eq_append_getElem hk, List.foldl_append]; rfl
    simp only [hstep, e5]
    generalize (xs.take k).foldl add1 l = A at s2
    have hh : ref21_has A xs[k] = some (A.contains xs[k]) := has_eq A xs[k] (by omega)
    refine if_of (decide_eq_true (by omega)) (jn_of (a := add1 A xs[k]) (need_of ⟨by omega, by omega⟩ (bnd_of hh ?_)) rfl)
    unfold add1
    cases hc : A.contains xs[k] with
    | true => exact if_not (by simp) rfl
    | false => exact if_of rfl (need_of ⟨by omega, by omega⟩ (need_of (by simp only [List.length_cons, List.length_nil]; unfold room; omega) rfl))
  · refine if_not (by simp) ?_
    rw [List.take_length]
theorem first_eq {v g : api_Value} (h : Few3 v) (hg : Few3 g) : ∃ l : List Int, reach_First v g = some l ∧ ref21_First v g = some l ∧ l.length ≤ 600 := by
  obtain ⟨v', d1, d2, d3⟩ := drop_eq h (Str.mk [80, 97, 114, 101, 110, 116])
  have l1 := kept_len (rs3 v')
  have l2 := kept_len (rs3 g)
  have l3 := rs3_len d3
  have l4 := rs3_len hg
  have hnd : (kept (rs3 v')).Nodup := (refsL_nodup 300 v' [] List.nodup_nil).filter _
  have e0 : (kept (rs3 v')).foldl add1 [] = kept (rs3 v') := fold_new _ [] (by simpa using hnd)
  obtain ⟨m1, p1, p2⟩ := put_eq [] [] (kept (rs3 v')) (fun k => rfl) (by unfold room; simp only [List.length_nil]; omega)
  rw [e0] at p1 p2
  obtain ⟨m2, p3, p4⟩ := put_eq m1 (kept (rs3 v')) (kept (rs3 g)) p2 (by unfold room; omega)
  have hl := fold_len (kept (rs3 g)) (kept (rs3 v'))
  refine ⟨(kept (rs3 g)).foldl add1 (kept (rs3 v')), ?_, ?_, by omega⟩
  · exact bnd_of d1 (bnd_of (next_eq d3) (bnd_of p1 (bnd_of (next_eq hg) (bnd_of p3 rfl))))
  · exact bnd_of d2 (bnd_of (rnext_eq d3) (bnd_of (rnext_eq hg) (bnd_of (on_eq _ _ (by unfold room; omega)) rfl)))
theorem kept_in' {l : List Int} {n : Int} (h : n ∈ kept l) : 1 ≤ n ∧ n ≤ 4096 := by
  unfold kept gone at h
  have := (List.mem_filter.1 h).2
  simp at this
  exact ⟨by omega, by omega⟩
theorem mem_fold : ∀ {xs l : List Int} {m : Int}, m ∈ xs.foldl add1 l → m ∈ l ∨ m ∈ xs
  | [], l, m, h => .inl h
  | x :: xs, l, m, h => by
    rw [List.foldl_cons] at h
    rcases mem_fold h with h | h
    · unfold add1 at h
      split at h
      · exact .inl h
      · rcases List.mem_append.1 h with h | h
        · exact .inl h
        · rw [List.mem_singleton.1 h]; exact .inr List.mem_cons_self
    · exact .inr (List.mem_cons_of_mem _ h)
theorem first_in {v g : api_Value} (h : Few3 v) (hg : Few3 g) : ∃ l : List Int, reach_First v g = some l ∧ ∀ m ∈ l, 1 ≤ m ∧ m ≤ 4096 := by
  obtain ⟨v', d1, d2, d3⟩ := drop_eq h (Str.mk [80, 97, 114, 101, 110, 116])
  have l1 := kept_len (rs3 v')
  have l2 := kept_len (rs3 g)
  have l3 := rs3_len d3
  have l4 := rs3_len hg
  have hnd : (kept (rs3 v')).Nodup := (refsL_nodup 300 v' [] List.nodup_nil).filter _
  have e0 : (kept (rs3 v')).foldl add1 [] = kept (rs3 v') := fold_new _ [] (by simpa using hnd)
  obtain ⟨m1, p1, p2⟩ := put_eq [] [] (kept (rs3 v')) (fun k => rfl) (by unfold room; simp only [List.length_nil]; omega)
  rw [e0] at p1 p2
  obtain ⟨m2, p3, p4⟩ := put_eq m1 (kept (rs3 v')) (kept (rs3 g)) p2 (by unfold room; omega)
  refine ⟨(kept (rs3 g)).foldl add1 (kept (rs3 v')), bnd_of d1 (bnd_of (next_eq d3) (bnd_of p1 (bnd_of (next_eq hg) (bnd_of p3 rfl)))), fun m hm => ?_⟩
  rcases mem_fold hm with hm | hm
  · exact kept_in' hm
  · exact kept_in' hm
end Go.AB
end

section
namespace Go.AB
open Go

def wD : api_Value := ⟨7, 0, ⟨[]⟩, [⟨5, 0, Str.mk [65], []⟩, ⟨8, 2, ⟨[]⟩, []⟩, ⟨5, 0, Str.mk [66], []⟩, ⟨8, 1, ⟨[]⟩, []⟩, ⟨5, 0, Str.mk [80, 97, 114, 101, 110, 116], []⟩, ⟨8, 9, ⟨[]⟩, []⟩]⟩
def wR (n : Int) : api_Value := ⟨8, n, ⟨[]⟩, []⟩
theorem x1 : value_DictOf [⟨5, 0, Str.mk [80, 97, 114, 101, 110, 116], []⟩, wR 9, ⟨5, 0, Str.mk [65], []⟩, wR 2, ⟨5, 0, Str.mk [66], []⟩, wR 1] = some wD := by kernel_rfl
theorem x2 : value_Refs wD = some [2, 1, 9] := by kernel_rfl
theorem x3 : reach_Next wD = some [2, 1, 9] := by kernel_rfl
theorem x4 : reach_First wD (wR 4) = some [2, 1, 4] := by kernel_rfl
theorem x5 : ref21_Same [2, 1, 4] [2, 1, 4] = some true := by kernel_rfl
def wO (v : api_Value) : api_Object := ⟨v, false, Str.mk []⟩
def wN : api_Value := ⟨0, 0, Str.mk [], []⟩
def wF : file_File := ⟨1, 3, ⟨[wO wD, wO (wR 3), wO wN], 1⟩⟩
theorem y1 : reach_row_put (reach_row.mk [] []) [1] = some ⟨[1], [(1, 0)]⟩ := by kernel_rfl
theorem y2 : file_File_Get wF 1 = some (wO wD, 0, 0) := by kernel_rfl
theorem y3 : reach_First wD wN = some [2, 1] := by kernel_rfl
theorem y4 : reach_row_put ⟨[1], [(1, 0)]⟩ [2, 1] = some ⟨[1, 2], [(1, 0), (2, 1)]⟩ := by kernel_rfl
theorem y5 : file_File_Get wF 2 = some (wO (wR 3), 0, 0) := by kernel_rfl
theorem y6 : reach_Next (wR 3) = some [3] := by kernel_rfl
theorem y7 : reach_row_put ⟨[1, 2], [(1, 0), (2, 1)]⟩ [3] = some ⟨[1, 2, 3], [(1, 0), (2, 1), (3, 2)]⟩ := by kernel_rfl
theorem y8 : file_File_Get wF 3 = some (wO wN, 0, 0) := by kernel_rfl
theorem y9 : reach_Next wN = some [] := by kernel_rfl
theorem y10 : reach_row_put ⟨[1, 2, 3], [(1, 0), (2, 1), (3, 2)]⟩ [] = some ⟨[1, 2, 3], [(1, 0), (2, 1), (3, 2)]⟩ := by kernel_rfl
def wS : Nat → List api_Object × reach_row
  | 0 => ([], ⟨[1], [(1, 0)]⟩)
  | 1 => ([wO wD], ⟨[1, 2], [(1, 0), (2, 1)]⟩)
  | 2 => ([wO wD, wO (wR 3)], ⟨[1, 2, 3], [(1, 0), (2, 1), (3, 2)]⟩)
  | _ => ([wO wD, wO (wR 3), wO wN], ⟨[1, 2, 3], [(1, 0), (2, 1), (3, 2)]⟩)
theorem closure_w : reach_Closure wF (tree_Leaf.mk 1 ([] : List Int) (api_Value.mk 0 0 (Str.mk []) ([] : List api_Value))) = some ([1, 2, 3], [wO wD, wO (wR 3), wO wN], 0, 0) := by
  unfold reach_Closure
  refine bnd_of y1 ?_
  refine jnS_of (z := (.inl ([wO wD, wO (wR 3), wO wN], ⟨[1, 2, 3], [(1, 0), (2, 1), (3, 2)]⟩))) ?_ (by rfl)
  refine bndS_of (z := (.inl ([wO wD, wO (wR 3), wO wN], ⟨[1, 2, 3], [(1, 0), (2, 1), (3, 2)]⟩))) ?_ (by rfl)
  refine iter_upto 3 wS (by rfl) (by decide) (fun k hk => ?_) ?_
  · match k, hk with
    | 0, _ => exact if_of rfl (need_of ⟨by decide, by decide⟩ (bnd_of y2 (if_not (by decide) (jn_of (if_of rfl (bnd_of y3 (bnd_of y4 rfl))) (need_of (by decide) rfl)))))
    | 1, _ => exact if_of rfl (need_of ⟨by decide, by decide⟩ (bnd_of y5 (if_not (by decide) (jn_of (if_not (by decide) (bnd_of y6 (bnd_of y7 rfl))) (need_of (by decide) rfl)))))
    | 2, _ => exact if_of rfl (need_of ⟨by decide, by decide⟩ (bnd_of y8 (if_not (by decide) (jn_of (if_not (by decide) (bnd_of y9 (bnd_of y10 rfl))) (need_of (by decide) rfl)))))
  · exact if_not (by decide) rfl
set_option maxHeartbeats 400000 in
theorem works21_true : law21_works = some true := by
  unfold law21_works
  refine bnd_of (a := ⟨5, 0, Str.mk [80, 97, 114, 101, 110, 116], []⟩) (by kernel_rfl) ?_
  refine bnd_of (a := wR 9) (by kernel_rfl) ?_
  refine bnd_of (a := ⟨5, 0, Str.mk [65], []⟩) (by kernel_rfl) ?_
  refine bnd_of (a := wR 2) (by kernel_rfl) ?_
  refine bnd_of (a := ⟨5, 0, Str.mk [66], []⟩) (by kernel_rfl) ?_
  refine bnd_of (a := wR 1) (by kernel_rfl) ?_
  refine bnd_of (a := wD) x1 ?_
  refine bnd_of (a := wR 3) (by kernel_rfl) ?_
  refine bnd_of (a := wF) (by kernel_rfl) ?_
  refine bnd_of (a := ([1, 2, 3], [wO wD, wO (wR 3), wO wN], 0, 0)) closure_w ?_
  refine bnd_of (a := true) (by kernel_rfl) ?_
  refine bnd_of (a := [2, 1, 9]) (by kernel_rfl) ?_
  refine bnd_of (a := true) (by kernel_rfl) ?_
  refine bnd_of (a := wR 4) (by kernel_rfl) ?_
  refine bnd_of (a := [2, 1, 4]) (by kernel_rfl) ?_
  refine bnd_of (a := true) (by kernel_rfl) ?_
  kernel_rfl
theorem few3 (v : api_Value) : ∃ r, ref11_Few bigN v 300 = some r ∧ (0 ≤ r → Few3 v) := by
  obtain ⟨r, h1, h2, h3, h4⟩ := few bigN v 300 (by decide) (by decide) (by decide)
  refine ⟨r, h1, fun h => ?_⟩
  obtain ⟨h5, h6⟩ := h4 h
  exact ⟨h5, by have : (cnt 300 v : Int) ≤ 300 - r := h6; omega⟩
theorem when_of {α : Type} {g : Bool} {z : α} {o r : Option α} (hg : g = true) (h : o = r) : whenB g z o = r := by rw [hg, whenB_t]; exact h
theorem when_no {α : Type} {g : Bool} {z : α} {o : Option α} (hg : g = false) : whenB g z o = some z := by rw [hg, whenB_f]
theorem law21_ReachNext_true (v g : api_Value) : law21_ReachNext v g = some true := by
  obtain ⟨r1, f1, f2⟩ := few3 v
  obtain ⟨r2, f3, f4⟩ := few3 g
  unfold law21_ReachNext
  refine bnd_of f1 ?_
  by_cases h1 : r1 < 0
  · refine bnd_of (a := 0) (when_no (by simp [h1])) ?_
    exact if_of (by simp [h1]) (bnd_of works21_true rfl)
  · refine bnd_of (a := r2) (when_of (by simp [h1]) f3) ?_
    by_cases h2 : r2 < 0
    · exact if_of (by simp [h2]) (bnd_of works21_true rfl)
    · have q1 := f2 (by omega)
      have q2 := f4 (by omega)
      have hl := rs3_len q1
      have hk := kept_len (rs3 v)
      obtain ⟨l, g1, g2, g3⟩ := first_eq q1 q2
      refine if_not (by simp [h1, h2]) ?_
      refine bnd_of (next_eq q1) ?_
      refine bnd_of (rnext_eq q1) ?_
      refine bnd_of (same_eq _ (by omega)) ?_
      refine bnd_of (when_of rfl g1) ?_
      refine bnd_of (when_of rfl g2) ?_
      refine bnd_of (when_of rfl (same_eq l (by omega))) ?_
      exact bnd_of (when_of rfl works21_true) rfl
end Go.AB
end

section
namespace Go.AB
open Go

theorem texts : ∀ (n : Nat) (v : api_Value) (fuel : Nat), W n v → n ≤ fuel → n ≤ 4611686018427387904 → ∃ b, ref14_texts fuel v = some b
  | 0, _, _, h, _, _ => h.elim
  | n + 1, _, 0, _, h, _ => by omega
  | n + 1, v, fuel + 1, h, hf, hn => by
    rw [ref14_texts]
    have hit : ∃ o : Unit ⊕ Bool, iter (fun (k3 : Int) =>
          if decide (k3 < (v.L.length : Int)) then
            need (0 ≤ k3 ∧ k3 < v.L.length) <|
            bnd (ref14_texts fuel (ix v.L k3)) fun r6 =>
            if !r6 then
              some (.inr (.inr false))
            else
              some (.inl (w64 (k3 + 1)))
          else
            some (.inr (.inl ()))) 0 = some o ∧ True := by
      refine iter_inv (fun k => 0 ≤ k) (fun k => ((v.L.length : Int) - k).toNat) _ (Int.le_refl 0) (by have := h.1; omega) fun k hk => ?_
      by_cases hl : k < (v.L.length : Int)
      · rw [if_pos (by simpa using hl), need_pos ⟨hk, hl⟩]
        obtain ⟨b, hb⟩ := texts n (ix v.L k) fuel (by
          rw [ix_at (by omega)]
          exact h.2 _ (List.getElem_mem _)) (by omega) (by omega)
        rw [hb, bnd_some]
        cases b with
        | false => exact ⟨_, rfl, trivial⟩
        | true =>
          refine ⟨_, rfl, ?_⟩
          have := h.1
          show 0 ≤ w64 (k + 1) ∧ ((v.L.length : Int) - w64 (k + 1)).toNat < ((v.L.length : Int) - k).toNat
          rw [w64_id (by omega) (by omega)]
          exact ⟨by omega, by omega⟩
      · rw [if_neg (by simpa using hl)]
        exact ⟨_, rfl, trivial⟩
    obtain ⟨o, h1, _⟩ := hit
    rw [h1]
    cases o with
    | inl u => exact ⟨_, rfl⟩
    | inr b => exact ⟨_, rfl⟩

theorem ref14_Few_some (o : api_Object) (n : Int) : ∃ b, ref14_Few o n = some b ∧ (b = true → Few3 o.V) := by
  obtain ⟨r, h1, h4⟩ := few3 o.V
  unfold ref14_Few
  rw [h1, bnd_some]
  by_cases hc : ((decide (r ≥ 0)) && (decide ((o.Data.b.length : Int) ≤ n))) = true
  · have hr : 0 ≤ r := by simp at hc; exact hc.1
    obtain ⟨b, hb⟩ := texts 300 o.V bigN (h4 hr).1 (by decide) (by decide)
    rw [hc, whenB_t, hb, bnd_some]
    exact ⟨_, rfl, fun _ => h4 hr⟩
  · have hc' : ((decide (r ≥ 0)) && (decide ((o.Data.b.length : Int) ≤ n))) = false := by simpa using hc
    rw [hc', whenB_f, bnd_some]
    exact ⟨_, rfl, fun h => by cases h⟩
theorem few_all (l : List api_Object) (most : Int) (hm : most ≤ 1000) : ∃ b, ref19_Few l most = some b ∧ (b = true → (l.length : Int) ≤ most ∧ ∀ o ∈ l, Few3 o.V) := by
  unfold ref19_Few
  by_cases hl : (l.length : Int) > most
  · rw [if_pos (by simpa using hl)]
    exact ⟨false, rfl, fun h => by cases h⟩
  rw [if_neg (by simpa using hl)]
  have key : ∃ o : Unit ⊕ Bool, iter (fun (k2 : Int) =>
          if decide (k2 < (l.length : Int)) then
            need (0 ≤ k2 ∧ k2 < l.length) <|
            bnd (ref14_Few (ix l k2) 300) fun r4 =>
            if !r4 then
              some (.inr (.inr false))
            else
              some (.inl (w64 (k2 + 1)))
          else
            some (.inr (.inl ()))) 0 = some o ∧ ((o = .inl () ∧ ∀ o ∈ l, Few3 o.V) ∨ o = .inr false) := by
    refine iter_inv (fun k => ∃ j : Nat, k = (j : Int) ∧ j ≤ l.length ∧ ∀ i (h : i < j) (h' : i < l.length), Few3 (l[i]).V) (fun k => ((l.length : Int) - k).toNat) _ ⟨0, rfl, Nat.zero_le _, fun i h => absurd h (Nat.not_lt_zero i)⟩ (by show ((l.length : Int) - 0).toNat < _; omega) ?_
    rintro k ⟨j, rfl, hj, hi⟩
    by_cases hjl : j < l.length
    · obtain ⟨b, h1, h2⟩ := ref14_Few_some (ix l (j : Int)) 300
      rw [if_pos (by simpa using hjl), need_pos ⟨by omega, by omega⟩, h1, bnd_some]
      cases b with
      | false => exact ⟨_, rfl, .inr rfl⟩
      | true =>
        refine ⟨_, rfl, ?_⟩
        show (∃ j' : Nat, w64 ((j : Int) + 1) = (j' : Int) ∧ _) ∧ _
        rw [w64_id (by omega) (by omega)]
        refine ⟨⟨j + 1, by omega, by omega, fun i h h' => ?_⟩, by omega⟩
        rcases Nat.lt_or_ge i j with hij | hij
        · exact hi i hij h'
        · have : i = j := by omega
          subst this
          rw [ix_nat hjl] at h2
          exact h2 rfl
    · rw [if_neg (by simpa using hjl)]
      refine ⟨_, rfl, .inl ⟨rfl, fun o ho => ?_⟩⟩
      obtain ⟨i, h, rfl⟩ := List.getElem_of_mem ho
      exact hi i (by omega) h
  obtain ⟨o, h1, h2⟩ := key
  rw [h1]
  rcases h2 with ⟨rfl, h2⟩ | rfl
  · exact ⟨true, rfl, fun _ => ⟨by omega, h2⟩⟩
  · exact ⟨false, rfl, fun h => by cases h⟩

def zeroO : api_Object := ⟨⟨0, 0, Str.mk [], []⟩, false, Str.mk []⟩
def getO (d : api_Doc) (n : Int) : api_Object := if (decide (n < 1)) || (decide (n > (d.Objects.length : Int))) then zeroO else ix d.Objects (n - 1)
structure FewD (d : api_Doc) : Prop where
  len : d.Objects.length ≤ 1000
  w : ∀ o ∈ d.Objects, Few3 o.V
theorem FewD.get {d : api_Doc} (h : FewD d) (n : Int) : Few3 (getO d n).V := by
  unfold getO
  split
  · exact ⟨⟨Nat.zero_le _, fun x hx => by cases hx⟩, by decide⟩
  · rename_i hc
    simp at hc
    rw [ix_at (by omega)]
    exact h.w _ (List.getElem_mem _)
theorem Get_eq (f : file_File) (n : Int) (h : FewD f.get_) : file_File_Get f n = some (getO f.get_ n, 0, 0) := by
  have hl := h.len
  unfold file_File_Get file_File_is
  rw [bnd_some]
  refine if_not (by simp) ?_
  unfold file_Of_1 getO
  by_cases hc : ((decide (n < 1)) || (decide (n > (f.get_.Objects.length : Int)))) = true
  · rw [if_pos hc, if_pos hc]; rfl
  · rw [if_neg hc, if_neg hc]
    simp at hc
    rw [w64_id (by omega) (by omega), need_pos (by omega)]; rfl

/-- The numbers that the object at a place of the row brings. -/
def news (d : api_Doc) (g : api_Value) (k : Nat) (n : Int) : List Int :=
  if k = 0 then (match reach_First (getO d n).V g with | some l => l | none => []) else kept (rs3 (getO d n).V)
/-- A number that is kept. -/
def inR (n : Int) : Prop := 1 ≤ n ∧ n ≤ 4096
theorem kept_in {l : List Int} {n : Int} (h : n ∈ kept l) : inR n := by
  unfold kept gone at h
  have := (List.mem_filter.1 h).2
  simp at this
  exact ⟨by omega, by omega⟩
theorem add1_mem {l : List Int} {n m : Int} : m ∈ add1 l n ↔ m ∈ l ∨ m = n := by
  unfold add1
  cases h : l.contains n with
  | true =>
    simp only [if_true]
    constructor
    · exact .inl
    · rintro (h1 | rfl)
      · exact h1
      · simpa using h
  | false => simp
theorem fold_mem : ∀ {xs l : List Int} {m : Int}, m ∈ xs.foldl add1 l ↔ m ∈ l ∨ m ∈ xs
  | [], l, m => by simp
  | x :: xs, l, m => by
    rw [List.foldl_cons, fold_mem (xs := xs), add1_mem, List.mem_cons, or_assoc]
theorem fold_nodup : ∀ {xs l : List Int}, l.Nodup → (xs.foldl add1 l).Nodup
  | [], _, h => h
  | x :: xs, l, h => by rw [List.foldl_cons]; exact fold_nodup (add1_nodup h x)
theorem add1_prefix (l : List Int) (n : Int) : l <+: add1 l n := by
  unfold add1
  cases l.contains n with
  | true => exact List.prefix_refl _
  | false => exact List.prefix_append ..
theorem fold_prefix : ∀ (xs l : List Int), l <+: xs.foldl add1 l
  | [], l => List.prefix_refl _
  | x :: xs, l => by rw [List.foldl_cons]; exact (add1_prefix l x).trans (fold_prefix xs _)
theorem filter_count (c : Int) : ∀ l : List Int, (l.filter fun m => m != c).length + l.count c = l.length
  | [] => rfl
  | a :: l => by
    have ih := filter_count c l
    rw [List.filter_cons, List.count_cons]
    by_cases e : a = c
    · subst e; simp; omega
    · have e1 : (a != c) = true := by simpa using e
      have e2 : (a == c) = false := by simpa using e
      rw [e1, e2]; simp; omega
/-- As many different numbers as there are. -/
theorem nodup_len : ∀ (n : Nat) (l : List Int), l.Nodup → (∀ m ∈ l, 1 ≤ m ∧ m ≤ (n : Int)) → l.length ≤ n
  | 0, [], _, _ => by simp
  | 0, a :: l, _, h => by have := h a List.mem_cons_self; omega
  | n + 1, l, hn, h => by
    obtain ⟨c, hc⟩ : ∃ c : Int, c = ((n + 1 : Nat) : Int) := ⟨_, rfl⟩
    have h1 : (l.filter fun m => m != c).length ≤ n := nodup_len n _ (hn.filter _) fun m hm => by
      have h2 := List.mem_filter.1 hm
      have h3 := h m h2.1
      have h4 : m ≠ c := by simpa using h2.2
      omega
    have h2 := filter_count c l
    have h3 := List.nodup_iff_count.1 hn c
    omega

/-- The row behind so many steps. -/
def rowK (d : api_Doc) (g : api_Value) (p : Int) : Nat → List Int
  | 0 => [p]
  | k + 1 => if k < (rowK d g p k).length then (news d g k ((rowK d g p k).getD k 0)).foldl add1 (rowK d g p k) else rowK d g p k
theorem rowK_prefix (d : api_Doc) (g : api_Value) (p : Int) (k : Nat) : rowK d g p k <+: rowK d g p (k + 1) := by
  rw [rowK]
  split
  · exact fold_prefix ..
  · exact List.prefix_refl _
theorem rowK_mono (d : api_Doc) (g : api_Value) (p : Int) : ∀ (j k : Nat), k ≤ j → rowK d g p k <+: rowK d g p j
  | 0, k, h => by obtain rfl : k = 0 := by omega
                  exact List.prefix_refl _
  | j + 1, k, h => by
    by_cases e : k = j + 1
    · subst e; exact List.prefix_refl _
    · exact (rowK_mono d g p j k (by omega)).trans (rowK_prefix ..)
theorem rowK_nodup (d : api_Doc) (g : api_Value) (p : Int) : ∀ k, (rowK d g p k).Nodup
  | 0 => by simp [rowK]
  | k + 1 => by
    rw [rowK]
    split
    · exact fold_nodup (rowK_nodup d g p k)
    · exact rowK_nodup d g p k
theorem news_in {d : api_Doc} {g : api_Value} (hd : FewD d) (hg : Few3 g) {k : Nat} {n m : Int} (h : m ∈ news d g k n) : inR m := by
  unfold news at h
  split at h
  · obtain ⟨v', d1, d2, d3⟩ := drop_eq (hd.get n) (Str.mk [80, 97, 114, 101, 110, 116])
    have hnd : (kept (rs3 v')).Nodup := (refsL_nodup 300 v' [] List.nodup_nil).filter _
    obtain ⟨l, f1, f2⟩ := first_in (hd.get n) hg
    rw [f1] at h
    exact f2 m h
  · exact kept_in h
theorem rowK_in {d : api_Doc} {g : api_Value} (hd : FewD d) (hg : Few3 g) (p : Int) : ∀ k, ∀ m ∈ rowK d g p k, m = p ∨ inR m
  | 0, m, h => by simp [rowK] at h; exact .inl h
  | k + 1, m, h => by
    rw [rowK] at h
    split at h
    · rcases fold_mem.1 h with h | h
      · exact rowK_in hd hg p k m h
      · exact .inr (news_in hd hg h)
    · exact rowK_in hd hg p k m h
theorem rowK_len {d : api_Doc} {g : api_Value} (hd : FewD d) (hg : Few3 g) (p : Int) (k : Nat) : (rowK d g p k).length ≤ 4097 := by
  have h := rowK_mono d g p k 0 (Nat.zero_le _)
  obtain ⟨t, ht⟩ := h
  have hn := rowK_nodup d g p k
  have hi := rowK_in hd hg p k
  rw [← ht] at hn hi ⊢
  have e : rowK d g p 0 = [p] := rfl
  rw [e] at hn hi ⊢
  rw [List.nodup_append] at hn
  have : t.length ≤ 4096 := nodup_len 4096 t hn.2.1 fun m hm => by
    rcases hi m (List.mem_append_right _ hm) with h | h
    · exact (hn.2.2 p List.mem_cons_self m hm h.symm).elim
    · exact h
  simp; omega
/-- There is a step at which all of the row is done. -/
theorem rowK_stop {d : api_Doc} {g : api_Value} (hd : FewD d) (hg : Few3 g) (p : Int) : ∃ n, n ≤ 4097 ∧ (rowK d g p n).length = n ∧ ∀ k, k < n → k < (rowK d g p k).length := by
  apply Classical.byContradiction
  intro hno
  have key : ∀ n, n ≤ 4098 → ∀ k, k < n → k < (rowK d g p k).length := by
    intro n
    induction n with
    | zero => intro _ k h; omega
    | succ n ih =>
      intro hn k hk
      by_cases e : k < n
      · exact ih (by omega) k e
      · obtain rfl : k = n := by omega
        apply Classical.byContradiction
        intro hge
        have hle : k ≤ (rowK d g p k).length := by
          cases k with
          | zero => omega
          | succ k =>
            have h1 := ih (by omega) k (by omega)
            have h2 := (rowK_prefix d g p k).length_le
            omega
        exact hno ⟨k, by have := rowK_len hd hg p k; omega, by omega, ih (by omega)⟩
  have h1 := key 4098 (Nat.le_refl _) 4097 (by omega)
  have h2 := rowK_len hd hg p 4097
  omega
def objs (d : api_Doc) (l : List Int) : List api_Object := l.map (getO d)
theorem news_eq {d : api_Doc} {g : api_Value} (hd : FewD d) (hg : Few3 g) (k : Nat) (n : Int) : (news d g k n).length ≤ 600 := by
  unfold news
  split
  · obtain ⟨l, f1, f2, f3⟩ := first_eq (hd.get n) hg
    rw [f1]; exact f3
  · have := kept_len (rs3 (getO d n).V)
    have := rs3_len (hd.get n)
    omega
theorem closure_eq (f : file_File) (x : tree_Leaf) (h : FewD f.get_) (hg : Few3 x.Given) : ∃ n, n ≤ 4097 ∧ (rowK f.get_ x.Given x.Page n).length = n ∧ (∀ k, k < n → k < (rowK f.get_ x.Given x.Page k).length) ∧
    reach_Closure f x = some (rowK f.get_ x.Given x.Page n, objs f.get_ (rowK f.get_ x.Given x.Page n), 0, 0) := by
  obtain ⟨n, h1, h2, h3⟩ := rowK_stop h hg x.Page
  refine ⟨n, h1, h2, h3, ?_⟩
  obtain ⟨m0, p1, p2⟩ := put_eq [] [] [x.Page] (fun k => rfl) (by unfold room; simp)
  unfold reach_Closure
  refine bnd_of p1 ?_
  have hrun : ∀ (r k : Nat), k + r = n → ∀ m, InL m (rowK f.get_ x.Given x.Page k) → ∃ m', Runs (fun ((out11, o12) : (List api_Object) × reach_row) =>
        if decide ((out11.length : Int) < (o12.l_.length : Int)) then
          need (0 ≤ (out11.length : Int) ∧ (out11.length : Int) < o12.l_.length) <|
          bnd (file_File_Get f (ix o12.l_ (out11.length : Int))) fun r22 =>
          if r22.2.2 != 0 then
            some (.inr (.inr (([] : List Int), ([] : List api_Object), r22.2.1, r22.2.2, o12)))
          else
            jn (
              if (out11.length : Int) == 0 then
                bnd (reach_First r22.1.V x.Given) fun r28 =>
                bnd (reach_row_put o12 r28) fun r29 =>
                some r29
              else
                bnd (reach_Next r22.1.V) fun r30 =>
                bnd (reach_row_put o12 r30) fun r31 =>
                some r31) fun (o27 : reach_row) =>
            need ((out11.length + [r22.1].length) * 80 ≤ room) <|
            some (.inl (out11 ++ [r22.1], o27))
        else
          some (.inr (.inl (out11, o12)))) (r + 1) (objs f.get_ ((rowK f.get_ x.Given x.Page k).take k), ⟨rowK f.get_ x.Given x.Page k, m⟩)
        ((.inl (objs f.get_ (rowK f.get_ x.Given x.Page n), (⟨rowK f.get_ x.Given x.Page n, m'⟩ : reach_row))) : ((List api_Object) × reach_row) ⊕ ((List Int) × (List api_Object) × Int × Int × reach_row)) := by
    intro r
    induction r with
    | zero =>
      intro k hk m _
      obtain rfl : k = n := by omega
      refine ⟨m, .stop ?_⟩
      have e : (rowK f.get_ x.Given x.Page k).take k = rowK f.get_ x.Given x.Page k := List.take_of_length_le (by omega)
      rw [e]
      refine if_not ?_ rfl
      simp [objs]
    | succ r ih =>
      intro k hk m hm
      have hkl := h3 k (by omega)
      have hrl := rowK_len h hg x.Page k
      generalize hR : rowK f.get_ x.Given x.Page k = R at hkl hm hrl
      have hlen : (objs f.get_ (R.take k)).length = k := by simp [objs]; omega
      have hix : ix R (k : Int) = R[k] := ix_nat hkl
      have hgd : R.getD k 0 = R[k] := by simp [List.getD_eq_getElem?_getD, hkl]
      have hnl := news_eq h hg k R[k]
      have hnext : rowK f.get_ x.Given x.Page (k + 1) = (news f.get_ x.Given k R[k]).foldl add1 R := by
        rw [rowK, hR, if_pos hkl, hgd]
      obtain ⟨m1, q1, q2⟩ := put_eq m R (news f.get_ x.Given k R[k]) hm (by unfold room; omega)
      obtain ⟨m', q3⟩ := ih (k + 1) (by omega) m1 (by rw [hnext]; exact q2)
      refine ⟨m', .step (t := (objs f.get_ ((rowK f.get_ x.Given x.Page (k + 1)).take (k + 1)), ⟨rowK f.get_ x.Given x.Page (k + 1), m1⟩)) ?_ q3⟩
      have htake : objs f.get_ ((rowK f.get_ x.Given x.Page (k + 1)).take (k + 1)) = objs f.get_ (R.take k) ++ [getO f.get_ R[k]] := by
        have hp := rowK_prefix f.get_ x.Given x.Page k
        rw [hR] at hp
        obtain ⟨t, ht⟩ := hp
        rw [← ht, List.take_append_of_le_length (by omega), List.take_succ_eq_append_getElem hkl]
        exact List.map_append
      rw [htake, hnext]
      dsimp only
      rw [hlen]
      refine if_of (decide_eq_true (by omega)) (need_of ⟨by omega, by omega⟩ (bnd_of (Get_eq f _ h) (if_not (by simp) ?_)))
      rw [hix]
      refine jn_of (a := ⟨(news f.get_ x.Given k R[k]).foldl add1 R, m1⟩) ?_ (need_of (by unfold room; simp only [List.length_cons, List.length_nil]; omega) rfl)
      by_cases hk0 : k = 0
      · subst hk0
        obtain ⟨l, f1, f2, f3⟩ := first_eq (h.get R[0]) hg
        have e : news f.get_ x.Given 0 R[0] = l := by unfold news; rw [if_pos rfl, f1]
        rw [e] at q1 ⊢
        exact if_of (by simp) (bnd_of f1 (bnd_of q1 rfl))
      · have e : news f.get_ x.Given k R[k] = kept (rs3 (getO f.get_ R[k]).V) := by unfold news; rw [if_neg hk0]
        rw [e] at q1 ⊢
        exact if_not (by simp; omega) (bnd_of (next_eq (h.get _)) (bnd_of q1 rfl))
  obtain ⟨m', hr⟩ := hrun n 0 (by omega) m0 p2
  refine jnS_of (z := (.inl (objs f.get_ (rowK f.get_ x.Given x.Page n), ⟨rowK f.get_ x.Given x.Page n, m'⟩))) ?_ rfl
  refine bndS_of (z := (.inl (objs f.get_ (rowK f.get_ x.Given x.Page n), ⟨rowK f.get_ x.Given x.Page n, m'⟩))) ?_ rfl
  exact hr.iter (by omega)
end Go.AB
end

section
namespace Go.AB
open Go

theorem law_has_eq (l : List Int) (n : Int) (hb : l.length < 4611686018427387904) : law21_has l n = some (l.contains n) := by
  unfold law21_has
  have key : ∃ o : Unit ⊕ Bool, iter (fun (k2 : Int) =>
        if decide (k2 < (l.length : Int)) then
          need (0 ≤ k2 ∧ k2 < l.length) <|
          if (ix l k2) == n then
            some (.inr (.inr true))
          else
            some (.inl (w64 (k2 + 1)))
        else
          some (.inr (.inl ()))) 0 = some o ∧ ((o = .inl () ∧ l.contains n = false) ∨ (o = .inr true ∧ l.contains n = true)) := by
    refine iter_inv (fun k => ∃ j : Nat, k = (j : Int) ∧ j ≤ l.length ∧ ∀ i (h : i < j) (h' : i < l.length), l[i] ≠ n) (fun k => ((l.length : Int) - k).toNat) _ ⟨0, rfl, Nat.zero_le _, fun i h => absurd h (Nat.not_lt_zero i)⟩ (by show ((l.length : Int) - 0).toNat < _; omega) ?_
    rintro k ⟨j, rfl, hj, hi⟩
    by_cases hjl : j < l.length
    · rw [if_pos (by simpa using hjl), need_pos ⟨by omega, by omega⟩, ix_nat hjl]
      by_cases he : l[j] = n
      · rw [if_pos (by simpa using he)]
        refine ⟨_, rfl, .inr ⟨rfl, ?_⟩⟩
        rw [List.contains_eq_mem, decide_eq_true_eq, ← he]
        exact List.getElem_mem _
      · rw [if_neg (by simpa using he)]
        refine ⟨_, rfl, ?_⟩
        show (∃ j' : Nat, w64 ((j : Int) + 1) = (j' : Int) ∧ _) ∧ _
        rw [w64_id (by omega) (by omega)]
        refine ⟨⟨j + 1, by omega, by omega, fun i h h' => ?_⟩, by omega⟩
        rcases Nat.lt_or_ge i j with hij | hij
        · exact hi i hij h'
        · have : i = j := by omega
          subst this; exact he
    · rw [if_neg (by simpa using hjl)]
      refine ⟨_, rfl, .inl ⟨rfl, ?_⟩⟩
      rw [List.contains_eq_mem]
      refine decide_eq_false fun hm => ?_
      obtain ⟨i, h, e⟩ := List.getElem_of_mem hm
      exact hi i (by omega) h e
  obtain ⟨o, h1, h2⟩ := key
  rw [h1]
  rcases h2 with ⟨rfl, h2⟩ | ⟨rfl, h2⟩
  · rw [h2]; rfl
  · rw [h2]; rfl

/-- What the objects ahead of a place, and what the page is given, refer to. -/
def said (d : api_Doc) (g : api_Value) (l : List Int) : Nat → List Int
  | 0 => []
  | k + 1 => if k = 0 then said d g l k ++ rs3 g ++ (match value_Drop (getO d (l.getD k 0)).V (Str.mk [80, 97, 114, 101, 110, 116]) with | some v => rs3 v | none => []) else said d g l k ++ rs3 (getO d (l.getD k 0)).V
theorem said_mono (d : api_Doc) (g : api_Value) (l : List Int) {m : Int} : ∀ (j k : Nat), k ≤ j → m ∈ said d g l k → m ∈ said d g l j
  | 0, k, h, hm => by obtain rfl : k = 0 := by omega
                      exact hm
  | j + 1, k, h, hm => by
    by_cases e : k = j + 1
    · subst e; exact hm
    · have h1 := said_mono d g l j k (by omega) hm
      rw [said]
      split
      · exact List.mem_append_left _ (List.mem_append_left _ h1)
      · exact List.mem_append_left _ h1
theorem said_len {d : api_Doc} {g : api_Value} (hd : FewD d) (hg : Few3 g) (l : List Int) : ∀ k, (said d g l k).length ≤ 600 * k
  | 0 => Nat.le_refl _
  | k + 1 => by
    have ih := said_len hd hg l k
    have h1 := rs3_len hg
    obtain ⟨v', d1, d2, d3⟩ := drop_eq (hd.get (l.getD k 0)) (Str.mk [80, 97, 114, 101, 110, 116])
    have h2 := rs3_len d3
    have h3 := rs3_len (hd.get (l.getD k 0))
    rw [said]
    split
    · rw [d1]; simp only [List.length_append]; omega
    · simp only [List.length_append]; omega
/-- What is brought at a step is what is said there. -/
theorem news_said {d : api_Doc} {g : api_Value} (hd : FewD d) (hg : Few3 g) (l : List Int) (k : Nat) (m : Int) : inR m → (m ∈ news d g k (l.getD k 0) ∨ m ∈ said d g l k ↔ m ∈ said d g l (k + 1)) := by
  intro hm
  have hk : ∀ x : List Int, (m ∈ kept x ↔ m ∈ x) := fun x => by
    unfold kept gone
    rw [List.mem_filter]
    constructor
    · exact fun h => h.1
    · intro h; refine ⟨h, ?_⟩
      simp; exact ⟨by have := hm.1; omega, by have := hm.2; omega⟩
  rw [said, news]
  by_cases h0 : k = 0
  · rw [if_pos h0, if_pos h0]
    obtain ⟨v', d1, d2, d3⟩ := drop_eq (hd.get (l.getD k 0)) (Str.mk [80, 97, 114, 101, 110, 116])
    have hf : reach_First (getO d (l.getD k 0)).V g = some ((kept (rs3 g)).foldl add1 (kept (rs3 v'))) := by
      have l1 := kept_len (rs3 v')
      have l2 := kept_len (rs3 g)
      have l3 := rs3_len d3
      have l4 := rs3_len hg
      have hnd : (kept (rs3 v')).Nodup := (refsL_nodup 300 v' [] List.nodup_nil).filter _
      have e0 : (kept (rs3 v')).foldl add1 [] = kept (rs3 v') := fold_new _ [] (by simpa using hnd)
      obtain ⟨m1, p1, p2⟩ := put_eq [] [] (kept (rs3 v')) (fun k => rfl) (by unfold room; simp only [List.length_nil]; omega)
      rw [e0] at p1 p2
      obtain ⟨m2, p3, p4⟩ := put_eq m1 (kept (rs3 v')) (kept (rs3 g)) p2 (by unfold room; omega)
      exact bnd_of d1 (bnd_of (next_eq d3) (bnd_of p1 (bnd_of (next_eq hg) (bnd_of p3 rfl))))
    rw [hf, d1]
    show m ∈ (kept (rs3 g)).foldl add1 (kept (rs3 v')) ∨ _ ↔ m ∈ said d g l k ++ rs3 g ++ rs3 v'
    rw [fold_mem, hk, hk, List.mem_append, List.mem_append]
    constructor
    · rintro ((h | h) | h)
      · exact .inr h
      · exact .inl (.inr h)
      · exact .inl (.inl h)
    · rintro ((h | h) | h)
      · exact .inr h
      · exact .inl (.inr h)
      · exact .inl (.inl h)
  · rw [if_neg h0, if_neg h0, hk, List.mem_append]
    exact or_comm
theorem getD_prefix {l r : List Int} (h : l <+: r) {k : Nat} (hk : k < l.length) : r.getD k 0 = l.getD k 0 := by
  obtain ⟨t, rfl⟩ := h
  simp [List.getD_eq_getElem?_getD, List.getElem?_append_left hk]
/-- The row, at a step: what it has is the page, or is said; what is said is in it. -/
theorem row_said {d : api_Doc} {g : api_Value} (hd : FewD d) (hg : Few3 g) (p : Int) {n : Nat} (hlt : ∀ k, k < n → k < (rowK d g p k).length) : ∀ k, k ≤ n → ∀ m, inR m →
    ((m ∈ said d g (rowK d g p n) k → m ∈ rowK d g p k) ∧ (m ∈ rowK d g p k → m = p ∨ m ∈ said d g (rowK d g p n) k))
  | 0, _, m, _ => ⟨fun h => (by cases h), fun h => .inl (by simpa [rowK] using h)⟩
  | k + 1, hk, m, hm => by
    obtain ⟨i1, i2⟩ := row_said hd hg p hlt k (by omega) m hm
    have hkl := hlt k (by omega)
    have hs := news_said hd hg (rowK d g p n) k m hm
    have hx : (rowK d g p n).getD k 0 = (rowK d g p k).getD k 0 := getD_prefix (rowK_mono d g p n k (by omega)) hkl
    rw [hx] at hs
    have hr : m ∈ rowK d g p (k + 1) ↔ m ∈ rowK d g p k ∨ m ∈ news d g k ((rowK d g p k).getD k 0) := by
      rw [rowK, if_pos hkl, fold_mem]
    rw [hr, ← hs]
    constructor
    · rintro (h | h)
      · exact .inr h
      · exact .inl (i1 h)
    · rintro (h | h)
      · rcases i2 h with h | h
        · exact .inl h
        · exact .inr (.inr h)
      · exact .inr (.inl h)
/-- A number of the row behind its first place is said ahead of it. -/
theorem row_at {d : api_Doc} {g : api_Value} (hd : FewD d) (hg : Few3 g) (p : Int) {n : Nat} (h2 : (rowK d g p n).length = n) (hlt : ∀ k, k < n → k < (rowK d g p k).length) {k : Nat} (h0 : 0 < k) (hk : k < (rowK d g p n).length) : (rowK d g p n)[k] ∈ said d g (rowK d g p n) k := by
  have hkl := hlt k (by omega)
  have hp := rowK_mono d g p n k (by omega)
  have e : (rowK d g p n)[k] = (rowK d g p k)[k] := by
    have := getD_prefix hp hkl
    simpa [List.getD_eq_getElem?_getD, hk, hkl] using this
  have hpp := rowK_mono d g p n 0 (by omega)
  have hne : (rowK d g p n)[k] ≠ p := fun e' => by
    obtain ⟨t, ht⟩ := hpp
    have hn := rowK_nodup d g p n
    have e0 : (rowK d g p n)[0]'(by omega) = p := by
      have := getD_prefix (rowK_mono d g p n 0 (by omega)) (k := 0) (by simp [rowK])
      have h0n : 0 < (rowK d g p n).length := by omega
      simpa [List.getD_eq_getElem?_getD, h0n, rowK] using this
    have := (List.nodup_iff_pairwise_ne.1 hn)
    have := List.pairwise_iff_getElem.1 this 0 k (by omega) hk h0
    exact this (by rw [e0, e'])
  have hin : inR (rowK d g p n)[k] := by
    rcases rowK_in hd hg p n _ (List.getElem_mem hk) with h | h
    · exact (hne h).elim
    · exact h
  rcases (row_said hd hg p hlt k (by omega) _ hin).2 (by rw [e]; exact List.getElem_mem _) with h | h
  · exact (hne h).elim
  · exact h

theorem law21_ReachClosed_true (d : api_Doc) (l : ref20_Leaf) : law21_ReachClosed d l = some true := by
  obtain ⟨b1, f1, f2⟩ := few_all d.Objects 40 (by decide)
  obtain ⟨r, g1, g2⟩ := few3 l.Given
  have hF : ref21_Few l = some (decide (r ≥ 0)) := bnd_of g1 rfl
  unfold law21_ReachClosed
  refine bnd_of f1 ?_
  cases b1 with
  | false => exact bnd_of (a := false) (when_no rfl) (if_of rfl (bnd_of works21_true rfl))
  | true =>
  refine bnd_of (a := decide (r ≥ 0)) (when_of rfl hF) ?_
  by_cases hr0 : r < 0
  · exact if_of (by simp; omega) (bnd_of works21_true rfl)
  have hr : r ≥ 0 := by omega
  refine if_not (by simp; omega) ?_
  have hd : FewD d := ⟨by have := (f2 rfl).1; omega, (f2 rfl).2⟩
  have hg : Few3 l.Given := g2 hr
  refine bnd_of (a := ⟨d.Root, d.Objects.length, d⟩) rfl (bnd_of (a := ⟨l.Page, l.Path, l.Given⟩) rfl ?_)
  obtain ⟨n, n1, n2, n3, hc⟩ := closure_eq ⟨d.Root, d.Objects.length, d⟩ ⟨l.Page, l.Path, l.Given⟩ hd hg
  have hc : reach_Closure ⟨d.Root, d.Objects.length, d⟩ ⟨l.Page, l.Path, l.Given⟩ = some (rowK d l.Given l.Page n, objs d (rowK d l.Given l.Page n), 0, 0) := hc
  have n2 : (rowK d l.Given l.Page n).length = n := n2
  have n3 : ∀ k, k < n → k < (rowK d l.Given l.Page k).length := n3
  refine bnd_of hc ?_
  have hat := fun (k : Nat) h0 hk => row_at hd hg l.Page n2 n3 (k := k) h0 hk
  have hsaid := row_said hd hg l.Page n3 n (Nat.le_refl n)
  have hpos : 0 < n := by
    have := (rowK_mono d l.Given l.Page n 0 (Nat.zero_le _)).length_le
    simp [rowK] at this; omega
  have hfirst : ix (rowK d l.Given l.Page n) 0 = l.Page := by
    have e := getD_prefix (rowK_mono d l.Given l.Page n 0 (Nat.zero_le _)) (k := 0) (by simp [rowK])
    have h0n : 0 < (rowK d l.Given l.Page n).length := by omega
    have e2 : ix (rowK d l.Given l.Page n) ((0 : Nat) : Int) = (rowK d l.Given l.Page n)[0] := ix_nat h0n
    rw [show ((0 : Nat) : Int) = 0 from rfl] at e2
    rw [e2]
    simpa [List.getD_eq_getElem?_getD, h0n, rowK] using e
  have hnd := rowK_nodup d l.Given l.Page n
  generalize rowK d l.Given l.Page n = R at n2 hat hsaid hfirst hnd
  have hol : (objs d R).length = R.length := by simp [objs]
  dsimp only
  refine need_of (fun _ => ⟨by decide, by omega⟩) (if_not ?_ ?_)
  · have hR : R ≠ [] := fun e => by rw [e] at n2; simp at n2; omega
    rw [hfirst, hol]; simp [hR]
  refine jnS_of (z := .inl (said d l.Given R n)) (bndS_of (z := .inl (said d l.Given R n)) ?_ rfl) ?_
  · refine iter_acc n (fun k => said d l.Given R k) rfl (by omega) (fun k hk => ?_) ?_
    · have hkl : k < R.length := by omega
      have e5 : ix R (k : Int) = R[k] := ix_nat hkl
      have hgd : R.getD k 0 = R[k] := by simp [List.getD_eq_getElem?_getD, hkl]
      have e6 : ix (objs d R) (k : Int) = getO d R[k] := by
        rw [ix_nat (by omega)]; simp [objs]
      have hsl := said_len hd hg R k
      dsimp only
      refine if_of (decide_eq_true (by omega)) (need_of (fun _ => ⟨by omega, by omega⟩) ?_)
      refine bnd_of (a := decide ((k : Int) > 0)) ?_ ?_
      · by_cases h0 : 0 < k
        · refine (when_of (by simp; omega) (law_has_eq _ _ (by omega))).trans ?_
          rw [e5, List.contains_eq_mem]
          congr 1
          rw [decide_eq_true (hat k h0 hkl)]
          exact (decide_eq_true (by omega)).symm
        · rw [when_no (by simp; omega)]
          congr 1
          exact (decide_eq_false (by omega)).symm
      have hgu : (!((decide ((k : Int) > 0)) && !(decide ((k : Int) > 0)))) = true := by cases decide ((k : Int) > 0) <;> rfl
      refine need_of (fun _ => ⟨by decide, by omega, by omega⟩) (need_of (fun _ => ⟨by omega, by omega⟩) ?_)
      have hpart : part R 0 (k : Int) = R.take k := by
        show (R.drop 0).take ((k : Int) - 0).toNat = _
        rw [Int.sub_zero]; rfl
      have hno : (R.take k).contains R[k] = false := by
        rw [List.contains_eq_mem]
        refine decide_eq_false fun hm => ?_
        obtain ⟨i, hi, e⟩ := List.getElem_of_mem hm
        rw [List.length_take] at hi
        rw [List.getElem_take] at e
        exact List.pairwise_iff_getElem.1 (List.nodup_iff_pairwise_ne.1 hnd) i k (by omega) hkl (by omega) e
      refine bnd_of (a := false) ((when_of hgu (law_has_eq _ _ (by rw [hpart, List.length_take]; omega))).trans (by rw [hpart, e5, hno])) ?_
      refine if_not (by cases decide ((k : Int) > 0) <;> simp) (need_of ⟨by omega, by omega⟩ ?_)
      rw [e6]
      have hl1 := rs3_len hg
      have hl2 := rs3_len (hd.get R[k])
      by_cases h0 : k = 0
      · obtain ⟨v', d1, d2, d3⟩ := drop_eq (hd.get R[k]) (Str.mk [80, 97, 114, 101, 110, 116])
        have hl3 := rs3_len d3
        have es : said d l.Given R (k + 1) = said d l.Given R k ++ rs3 l.Given ++ rs3 v' := by
          rw [said, if_pos h0, hgd, d1]
        rw [es]
        refine jn_of (a := (said d l.Given R k ++ rs3 l.Given, v')) (if_of (by simp; omega) (bnd_of d1 (bnd_of (refs_eq hg) (need_of (by unfold room; omega) rfl)))) ?_
        exact bnd_of (refs_eq d3) (need_of (by unfold room; simp only [List.length_append]; omega) rfl)
      · have es : said d l.Given R (k + 1) = said d l.Given R k ++ rs3 (getO d R[k]).V := by
          rw [said, if_neg h0, hgd]
        rw [es]
        refine jn_of (a := (said d l.Given R k, (getO d R[k]).V)) (if_not (by simp; omega) rfl) ?_
        exact bnd_of (refs_eq (hd.get _)) (need_of (by dsimp only; unfold room; omega) rfl)
    · refine if_not ?_ rfl
      simp; omega
  · have hsl := said_len hd hg R n
    show jnS _ _ _ = _
    refine jnS_of (z := .inl ()) (bndS_of (z := .inl ()) (iter_cnt (said d l.Given R n).length (by omega) (fun k hk => ?_) ?_) rfl) ?_
    · have e5 : ix (said d l.Given R n) (k : Int) = (said d l.Given R n)[k] := ix_nat hk
      refine if_of (decide_eq_true (by omega)) (need_of ⟨by omega, by omega⟩ (need_of (fun _ => ⟨by omega, by omega⟩) (need_of (fun _ => ⟨by omega, by omega⟩) ?_)))
      rw [e5]
      cases hg1 : ((decide ((said d l.Given R n)[k] ≥ 1)) && (decide ((said d l.Given R n)[k] ≤ 4096))) with
      | false => exact bnd_of (a := false) (when_no rfl) (if_not (by simp) rfl)
      | true =>
        simp only [Bool.and_eq_true, decide_eq_true_eq] at hg1
        refine bnd_of (a := true) ((when_of rfl (law_has_eq _ _ (by omega))).trans ?_) (if_not (by simp) rfl)
        rw [List.contains_eq_mem, decide_eq_true ((hsaid _ ⟨hg1.1, hg1.2⟩).1 (List.getElem_mem _))]
    · exact if_not (by simp) rfl
    · exact bnd_of works21_true rfl
end Go.AB
end

section
namespace Go.AB
open Go Go.RowKit Go.ChangeShapes Go.WideShapes

/-- At a law's start: so many first cells of each block never change. -/
def bigR (N : Nat) (w : World) (b : Nat) : Nat := if b < w.heap.size then N else 0

theorem law_calls' {P : Program} {w : World} {f : FuncId} {args : List AV} {vs : Array Value} (N : Nat) (hf : FN P f args noStore fun rs _ => rs = [.bool true]) (ha : ArgsR w (bigR N w) args vs) :
    Calls P f vs w fun e w' => e = .returned (.bool true) ∧ Below w.heap.size w w' := by
  refine (hf ⟨bigR N w, fun _ => .none⟩ w vs ⟨fun _ _ => rfl, fun b hb => ?_⟩ (fun b => .inl rfl) (fun b o h => by cases h) ha).mono fun e w' ⟨v, rs, s', G', he, hq, _, _, hr, hp⟩ => ?_
  · show bigR N w b = 0
    unfold bigR
    rw [if_neg (by omega)]
  · subst hq
    refine ⟨?_, ⟨hp.os, hp.tape, hp.output, hp.size, fun b hb => hp.frame b hb (.inr rfl)⟩⟩
    rw [he]
    have := VR.inv_bool hr.1
    rw [this]

def VRs (w : World) (R : Nat → Nat) (as1 : List AV) (cs : List Value) : Prop := cs.length = as1.length ∧ ∀ (j : Nat) (a : AV) (v : Value), as1[j]? = some a → cs[j]? = some v → VR w R a v

theorem VRs.one {w : World} {R : Nat → Nat} {a : AV} {v : Value} (h : VR w R a v) : VRs w R [a] [v] := by
  refine ⟨rfl, fun j a' v' h1 h2 => ?_⟩
  cases j with
  | zero => cases h1; cases h2; exact h
  | succ j => simp at h1
theorem VRs.append {w : World} {R : Nat → Nat} {as1 bs : List AV} {cs ds : List Value} (h : VRs w R as1 cs) (k : VRs w R bs ds) : VRs w R (as1 ++ bs) (cs ++ ds) := by
  refine ⟨by rw [List.length_append, List.length_append, h.1, k.1], fun j a v h1 h2 => ?_⟩
  rcases Nat.lt_or_ge j as1.length with hj | hj
  · rw [List.getElem?_append_left hj] at h1
    rw [List.getElem?_append_left (by rw [h.1]; exact hj)] at h2
    exact h.2 j a v h1 h2
  · rw [List.getElem?_append_right hj] at h1
    rw [List.getElem?_append_right (by rw [h.1]; exact hj), h.1] at h2
    exact k.2 _ a v h1 h2

/-- What cells of a Go type read as: values of a Lean type. -/
def OpensC (P : Program) (t : TypeId) {α : Type} (n : Nat) (C : α → List AV) (wf : α → Prop) : Prop :=
  ∀ (H : Type) (enc : TypeId × Value → H) (w : World) (fuel : Nat) (cs : List Value) (x : DataW H × List MemPlace), DataW.trod enc P w 0 (fun _ => true) true fuel t cs = some x →
    cs.length = n ∧ ∃ a : α, wf a ∧ Fl (C a) ∧ ∃ N0, ∀ N, N0 ≤ N → VRs w (bigR N w) (C a) cs
def Opens (P : Program) (t : TypeId) (α : Type) [Enc α] (wf : α → Prop) : Prop := OpensC P t (Enc.w α) (Enc.cells : α → List AV) wf

section
variable {P : Program} {t : TypeId}
theorem fl_one {a : AV} (h : flatV a = true) : Fl [a] := by
  intro c hc
  rw [List.mem_singleton] at hc; rw [hc]; exact h

theorem opens_bool (ht : P.underlying t = some .bool) : Opens P t Bool fun _ => True := by
  intro H enc w fuel cs x h
  obtain ⟨b, rfl, _⟩ := DataW.trod_bool ht h
  exact ⟨rfl, b, trivial, fl_one rfl, 0, fun N _ => VRs.one (.bool b)⟩
theorem opens_int (ht : P.underlying t = some (.int .i64)) : Opens P t Int fun n => -9223372036854775808 ≤ n ∧ n ≤ 9223372036854775807 := by
  intro H enc w fuel cs x h
  obtain ⟨n, rfl, _, hw⟩ := DataW.trod_int ht h
  refine ⟨rfl, n, ?_, fl_one rfl, 0, fun N _ => VRs.one (.int _ n)⟩
  simpa [Lit.wf, IntKind.min, IntKind.max, IntKind.signed, IntKind.bits] using hw
theorem opens_u8 (ht : P.underlying t = some (.int .u8)) : Opens P t UInt8 fun _ => True := by
  intro H enc w fuel cs x h
  obtain ⟨n, rfl, _, hw⟩ := DataW.trod_int ht h
  have hb : 0 ≤ n ∧ n ≤ 255 := by simpa [Lit.wf, IntKind.min, IntKind.max, IntKind.signed, IntKind.bits] using hw
  refine ⟨rfl, UInt8.ofNat n.toNat, trivial, fl_one rfl, 0, fun N _ => ?_⟩
  have e : ((UInt8.ofNat n.toNat).toNat : Int) = n := by
    rw [UInt8.toNat_ofNat']; omega
  show VRs _ _ [.int .u8 ((UInt8.ofNat n.toNat).toNat : Int)] _
  rw [e]
  exact VRs.one (.int _ n)
theorem opens_u32 (ht : P.underlying t = some (.int .u32)) : Opens P t UInt32 fun _ => True := by
  intro H enc w fuel cs x h
  obtain ⟨n, rfl, _, hw⟩ := DataW.trod_int ht h
  have hb : 0 ≤ n ∧ n ≤ 4294967295 := by simpa [Lit.wf, IntKind.min, IntKind.max, IntKind.signed, IntKind.bits] using hw
  refine ⟨rfl, UInt32.ofNat n.toNat, trivial, fl_one rfl, 0, fun N _ => ?_⟩
  have e : ((UInt32.ofNat n.toNat).toNat : Int) = n := by
    rw [UInt32.toNat_ofNat']; omega
  show VRs _ _ [.int .u32 ((UInt32.ofNat n.toNat).toNat : Int)] _
  rw [e]
  exact VRs.one (.int _ n)
theorem opens_u64 (ht : P.underlying t = some (.int .u64)) : Opens P t UInt64 fun _ => True := by
  intro H enc w fuel cs x h
  obtain ⟨n, rfl, _, hw⟩ := DataW.trod_int ht h
  have hb : 0 ≤ n ∧ n ≤ 18446744073709551615 := by simpa [Lit.wf, IntKind.min, IntKind.max, IntKind.signed, IntKind.bits] using hw
  refine ⟨rfl, UInt64.ofNat n.toNat, trivial, fl_one rfl, 0, fun N _ => ?_⟩
  have e : ((UInt64.ofNat n.toNat).toNat : Int) = n := by
    rw [UInt64.toNat_ofNat']; omega
  show VRs _ _ [.int .u64 ((UInt64.ofNat n.toNat).toNat : Int)] _
  rw [e]
  exact VRs.one (.int _ n)
theorem opens_str (ht : P.underlying t = some .string) : Opens P t Str fun s => s.b.length ≤ maxLen := by
  intro H enc w fuel cs x h
  obtain ⟨s, rfl, _, hs⟩ := DataW.trod_string ht h
  refine ⟨rfl, ⟨s.data.toList⟩, by simpa using hs, fl_one rfl, 0, fun N _ => ?_⟩
  have := VR.str (w := w) (R := bigR N w) s.data.toList
  exact VRs.one this

theorem choose_list {α : Type} {Q : Nat → α → Prop} : ∀ n : Nat, (∀ i, i < n → ∃ a, Q i a) → ∃ l : List α, l.length = n ∧ ∀ (i : Nat) (a : α), l[i]? = some a → Q i a
  | 0, _ => ⟨[], rfl, fun i a h => by simp at h⟩
  | n + 1, h => by
    obtain ⟨l, h1, h2⟩ := choose_list n fun i hi => h i (by omega)
    obtain ⟨a, ha⟩ := h n (by omega)
    refine ⟨l ++ [a], by simp [h1], fun i x hx => ?_⟩
    rcases Nat.lt_or_ge i n with hi | hi
    · rw [List.getElem?_append_left (by omega)] at hx; exact h2 i x hx
    · rw [List.getElem?_append_right (by omega)] at hx
      have : i = n := by
        have := (List.getElem?_eq_some_iff.1 hx).1
        simp at this; omega
      subst this
      rw [h1, Nat.sub_self] at hx
      injection hx with hx; rw [← hx]; exact ha
theorem common {Q : Nat → Nat → Prop} : ∀ n : Nat, (∀ i, i < n → ∃ N0, ∀ N, N0 ≤ N → Q i N) → ∃ N0, ∀ N, N0 ≤ N → ∀ i, i < n → Q i N
  | 0, _ => ⟨0, fun _ _ i h => absurd h (Nat.not_lt_zero i)⟩
  | n + 1, h => by
    obtain ⟨a, ha⟩ := common n fun i hi => h i (by omega)
    obtain ⟨b, hb⟩ := h n (by omega)
    refine ⟨max a b, fun N hN i hi => ?_⟩
    rcases Nat.lt_or_ge i n with h1 | h1
    · exact ha N (by omega) i h1
    · have : i = n := by omega
      rw [this]; exact hb N (by omega)

theorem flat_get {α : Type} [Enc α] (l : List α) {i r : Nat} {a : α} (hi : l[i]? = some a) (hr : r < Enc.w α) : (flat l)[i * Enc.w α + r]? = (Enc.cells a)[r]? := by
  have h1 := flat_sub l (Enc.w α) i 1 rfl
  obtain ⟨hlt, he⟩ := List.getElem?_eq_some_iff.1 hi
  have h2 : (l.drop i).take 1 = [a] := by rw [List.drop_eq_getElem_cons hlt, he]; rfl
  rw [h2, flat_cons, flat_nil, List.append_nil, Nat.one_mul] at h1
  rw [← h1]
  unfold AB.sub
  rw [List.getElem?_take, if_pos hr, List.getElem?_drop]

/-- A slice of them, as an argument. -/
theorem open_slice {H : Type} {enc : TypeId × Value → H} {w : World} {e : TypeId} {α : Type} [Enc α] {wf : α → Prop} {b0 : Nat} {v : Value} {d : DataW H} {ps : List MemPlace}
    (ht : P.underlying t = some (.slice e)) (hc : P.cellsOf e = Enc.w α) (he : Opens P e α wf) (hval : Value.okWide P w .any b0 t v) (h : DataW.Trod enc P w 0 (fun _ => true) true t v d ps) :
    ∃ l : List α, l.length ≤ maxLen ∧ (∀ a ∈ l, wf a) ∧ ∃ N0, ∀ N, N0 ≤ N → VR w (bigR N w) (.sl false (Enc.w α) l.length (flat l)) v := by
  have hv : v = .slice none 0 0 ∨ ∃ a len cap, v = .slice (some a) len cap ∧ w.has P .any b0 a e cap := by
    unfold Value.okWide Cell.okWide Cell.ok at hval
    rw [ht] at hval
    dsimp only at hval
    split at hval <;> simp_all
    exact ⟨_, _, _, ⟨rfl, rfl, rfl⟩, hval.2.2⟩
  obtain ⟨fuel, hf⟩ := h
  rcases hv with rfl | ⟨a, len, cap, rfl, hhas⟩
  · exact ⟨[], Nat.zero_le _, (fun _ h => absurd h List.not_mem_nil), 0, fun N _ => .slnil _ _⟩
  · obtain ⟨_, hsp, row, cells, hsh, _⟩ := hhas
    obtain ⟨b, off, spot⟩ := a
    simp only at hsp hsh
    subst hsp
    have hb : b < w.heap.size := by
      rcases Nat.lt_or_ge b w.heap.size with h | h
      · exact h
      · unfold World.shape? at hsh
        rw [Array.getElem?_eq_none h] at hsh
        cases hsh
    rcases DataW.trod_slice ht hf with ⟨h0, _⟩ | ⟨a, len', cap', elems, rest, n, _, hcs, _, _, hl, hm, hlen, hel, _⟩
    · simp [Value.cells] at h0
    · have hcs' : (a = ⟨b, off, none⟩ ∧ len' = len) ∧ cap' = cap := by
        simp [Value.cells] at hcs
        exact ⟨⟨hcs.1.symm, hcs.2.1.symm⟩, hcs.2.2.symm⟩
      obtain ⟨⟨rfl, rfl⟩, rfl⟩ := hcs'
      have each : ∀ i, i < len' → ∃ x : α × List Value, wf x.1 ∧ Fl (Enc.cells x.1) ∧ w.cells? 0 ((⟨b, off, none⟩ : Addr).add (i * Enc.w α)) (Enc.w α) = some x.2 ∧ ∃ N0, ∀ N, N0 ≤ N → VRs w (bigR N w) (Enc.cells x.1) x.2 := by
        intro i hi
        have h1 := hel i hi
        rw [hc, List.getElem?_eq_getElem (by omega), Option.bind_eq_some_iff] at h1
        obtain ⟨cs, h2, h3⟩ := h1
        obtain ⟨_, x, h4, h5, h6⟩ := he H enc w n cs _ h3
        exact ⟨(x, cs), h4, h5, h2, h6⟩
      obtain ⟨L, hL, hQ⟩ := choose_list len' each
      have hx : ∀ i, i < len' → ∃ x, L[i]? = some x := fun i hi => ⟨L[i]'(by omega), List.getElem?_eq_getElem (by omega)⟩
      obtain ⟨N0, hN0⟩ := common (Q := fun i N => ∀ x, L[i]? = some x → VRs w (bigR N w) (Enc.cells x.1) x.2) len' fun i hi => by
        obtain ⟨x, hx⟩ := hx i hi
        obtain ⟨_, _, _, N0, h⟩ := hQ i x hx
        exact ⟨N0, fun N hN y hy => by rw [hx] at hy; cases hy; exact h N hN⟩
      have hwf : ∀ a ∈ L.map (·.1), wf a ∧ Fl (Enc.cells a) := by
        intro a ha
        obtain ⟨x, hx, rfl⟩ := List.mem_map.1 ha
        obtain ⟨i, hi⟩ := List.getElem?_of_mem hx
        have := hQ i x hi
        exact ⟨this.1, this.2.1⟩
      have hget : ∀ (j : Nat) (c : AV), (flat (L.map (·.1)))[j]? = some c → ∃ v, w.cell? ⟨b, off + j, none⟩ = some v ∧ ∀ N, N0 ≤ N → VR w (bigR N w) c v := by
        intro j c hj
        have hw : 0 < Enc.w α := Enc.pos
        have hjl := (List.getElem?_eq_some_iff.1 hj).1
        rw [flat_len, List.length_map, hL] at hjl
        have hi : j / Enc.w α < len' := Nat.div_lt_of_lt_mul (by rw [Nat.mul_comm]; exact hjl)
        have hr : j % Enc.w α < Enc.w α := Nat.mod_lt _ hw
        have hje : j = j / Enc.w α * Enc.w α + j % Enc.w α := by rw [Nat.mul_comm]; exact (Nat.div_add_mod _ _).symm
        obtain ⟨x, hx⟩ := hx _ hi
        have h1 := flat_get (L.map (·.1)) (i := j / Enc.w α) (a := x.1) (by rw [List.getElem?_map, hx]; rfl) hr
        rw [← hje, hj] at h1
        obtain ⟨_, _, h2, _⟩ := hQ _ x hx
        obtain ⟨_, h3, h4⟩ := World.cells?_some h2
        have h5 := h4 _ hr
        rw [add_plain, add_plain, Nat.add_assoc, ← hje] at h5
        refine ⟨x.2[j % Enc.w α]'(by omega), by rw [h5, List.getElem?_eq_getElem], fun N hN => ?_⟩
        exact (hN0 N hN _ hi x hx).2 _ _ _ h1.symm (List.getElem?_eq_getElem _)
      refine ⟨L.map (·.1), by rw [List.length_map, hL]; omega, fun a ha => (hwf a ha).1, max N0 (off + len' * Enc.w α), fun N hN => ?_⟩
      rw [List.length_map, hL]
      refine .sl false (Enc.w α) len' _ b off cap' (fun j => (w.cell? ⟨b, off + j, none⟩).getD default) ?_ ?_ ?_ hl ?_ ?_
      · intro c hcm
        unfold flat at hcm
        obtain ⟨l, hl, hcl⟩ := List.mem_flatten.1 hcm
        obtain ⟨a, ha, rfl⟩ := List.mem_map.1 hl
        exact (hwf a ha).2 c hcl
      · rw [flat_len, List.length_map, hL]
      · rw [flat_len, List.length_map, hL]
        unfold bigR
        rw [if_pos hb]; omega
      · intro j c hj
        obtain ⟨v, h1, _⟩ := hget j c hj
        rw [h1]; rfl
      · intro j c hj
        obtain ⟨v, h1, h2⟩ := hget j c hj
        simp only [h1, Option.getD_some]; exact h2 N (by omega)
end
end Go.AB
end

section
namespace Go.AB
open Go Go.RowKit Go.ChangeShapes Go.WideShapes

section
variable {P : Program}

theorem trodAll_below {H : Type} {enc : TypeId × Value → H} (hl : laidOutB P = true) {W W' : World} (hb : Below W.heap.size W W') :
    ∀ {ts : List TypeId} {vs : List Value} {ds : List (DataW H)} {ps : List MemPlace}, (∀ t ∈ ts, P.readableRec t = true ∧ t < P.types.size) → DataW.TrodAll enc P W 0 (fun _ => true) true ts vs ds ps →
      DataW.TrodAll enc P W' 0 (fun b => decide (b < W.heap.size)) true ts vs ds ps
  | [], [], [], _, _, h => h
  | t :: ts, v :: vs, d :: ds, _, hr, h => by
    have hlt := h.lt
    obtain ⟨p, q, h1, h2, rfl⟩ := h
    have ht := hr t List.mem_cons_self
    exact ⟨p, q, Below.trod hl ht.1 ht.2 h1 hb fun x hx => hlt x (List.mem_append_left _ hx), trodAll_below hl hb (fun t ht => hr t (List.mem_cons_of_mem _ ht)) h2, rfl⟩
  | [], _ :: _, _, _, _, h => h.elim
  | [], [], _ :: _, _, _, h => h.elim
  | _ :: _, [], _, _, _, h => h.elim
  | _ :: _, _ :: _, [], _, _, h => h.elim

/-- What a law's row asks, once its call returns true and turns nothing that was there. -/
theorem law_post {H : Type} {enc : TypeId × Value → H} {fn : Func} {s : ChangeSpec} {f : FuncId} {W : World} {args : Array Value} {ds gs : List (DataW H)} {before : List MemPlace} {tb : TypeId}
    (hvars : s.vars = []) (hres : fn.resultTypes = #[tb]) (htb : P.underlying tb = some .bool) (hl : laidOutB P = true) (hr : ∀ t ∈ fn.params.toList, P.readableRec t = true ∧ t < P.types.size)
    (hspec : ∀ ds : List (DataW H), ds.length = fn.params.toList.length → s.fn H ds = { results := [.lit (.bool true)], args := ds })
    (hW : DataW.Whole enc P fn.params.toList s.vars false W args.toList ds gs before)
    (hc : Calls P f args W fun e w' => e = .returned (.bool true) ∧ Below W.heap.size W w') :
    Calls P f args W fun e W' => ∃ v, e = .returned v ∧ s.post enc P fn false true false false W args v W' := by
  refine hc.mono fun e W' ⟨he, hb⟩ => ⟨.bool true, he, ?_⟩
  have hW' := hW
  obtain ⟨p, q, hA, hV, rfl, hfz, hnd⟩ := hW
  rw [hvars] at hV
  obtain ⟨rfl, rfl⟩ := trodVars_none hV
  have hs := hspec ds (trodAll_length hA).2
  refine ⟨ds, [], _, [], p, [], hW', ?_, ?_, ?_, ?_, fun h => by cases h⟩
  · rw [List.append_nil, hs, hres]
    exact trodAll_mk1 (shut_bool htb true)
  · rw [List.append_nil, hs]
    exact trodAll_below hl hb hr hA
  · rw [List.append_nil, hs, hvars]
    exact rfl
  · exact World.keptBut_mono (fun p hp => hp.elim) (hb.frame fun _ => False)

/-! Products. -/
def OpensF (P : Program) (fs : List (TypeId × Nat)) (o : Nat) {α : Type} (n : Nat) (C : α → List AV) (wf : α → Prop) : Prop :=
  ∀ (H : Type) (enc : TypeId × Value → H) (w : World) (fuel : Nat) (cs : List Value), (∀ f ∈ fs, ∃ x, DataW.trod enc P w 0 (fun _ => true) true fuel f.1 ((cs.drop f.2).take (P.cellsOf f.1)) = some x) →
    ∃ a : α, wf a ∧ Fl (C a) ∧ ∃ N0, ∀ N, N0 ≤ N → VRs w (bigR N w) (C a) ((cs.drop o).take n)

theorem opensF_nil {o : Nat} : OpensF P [] o 0 (fun _ : Unit => []) fun _ => True :=
  fun _ _ _ _ _ _ => ⟨(), trivial, (fun _ h => absurd h List.not_mem_nil), 0, fun _ _ => ⟨by simp, fun j a v h => by simp at h⟩⟩
theorem opensF_cons {t : TypeId} {o n1 n2 : Nat} {fs : List (TypeId × Nat)} {α β : Type} {C1 : α → List AV} {C2 : β → List AV} {wf1 : α → Prop} {wf2 : β → Prop}
    (h1 : OpensC P t n1 C1 wf1) (hc : P.cellsOf t = n1) (h2 : OpensF P fs (o + n1) n2 C2 wf2) : OpensF P ((t, o) :: fs) o (n1 + n2) (fun p : α × β => C1 p.1 ++ C2 p.2) fun p => wf1 p.1 ∧ wf2 p.2 := by
  intro H enc w fuel cs h
  obtain ⟨x, hx⟩ := h _ List.mem_cons_self
  obtain ⟨_, a, ha, hfa, N1, hN1⟩ := h1 H enc w fuel _ x hx
  obtain ⟨b, hb, hfb, N2, hN2⟩ := h2 H enc w fuel cs fun f hf => h f (List.mem_cons_of_mem _ hf)
  refine ⟨(a, b), ⟨ha, hb⟩, fun c hc => (List.mem_append.1 hc).elim (hfa c) (hfb c), max N1 N2, fun N hN => ?_⟩
  rw [List.take_add, List.drop_drop]
  refine VRs.append ?_ (hN2 N (by omega))
  rw [← hc]
  exact hN1 N (by omega)
theorem OpensC.map {t : TypeId} {n : Nat} {α β : Type} {C : α → List AV} {wf : α → Prop} (h : OpensC P t n C wf) {C' : β → List AV} {wf' : β → Prop} (g : α → β) (hC : ∀ a, C' (g a) = C a) (hw : ∀ a, wf a → wf' (g a)) : OpensC P t n C' wf' := by
  intro H enc w fuel cs x hx
  obtain ⟨h1, a, h2, h3, N0, h4⟩ := h H enc w fuel cs x hx
  exact ⟨h1, g a, hw a h2, by rw [hC]; exact h3, N0, by rw [hC]; exact h4⟩
theorem opens_struct {t : TypeId} {fs : Array Field} {n : Nat} {α : Type} {C : α → List AV} {wf : α → Prop} (ht : P.underlying t = some (.struct fs)) (hn : P.cellsOf t = n)
    (hf : OpensF P (fs.toList.map fun f => (f.type, f.offset)) 0 n C wf) : OpensC P t n C wf := by
  intro H enc w fuel cs x h
  obtain ⟨xs, m, _, _, hl, hxl, hel⟩ := DataW.trod_struct ht h
  obtain ⟨a, ha, hfa, N0, hN⟩ := hf H enc w m cs fun f hf => by
    obtain ⟨g, hg, rfl⟩ := List.mem_map.1 hf
    obtain ⟨i, hi⟩ := List.getElem?_of_mem hg
    have h1 := hel i g (by rw [← Array.getElem?_toList]; exact hi)
    have hi' := (List.getElem?_eq_some_iff.1 hi).1
    rw [List.getElem?_eq_getElem (by simpa [hxl] using hi')] at h1
    exact ⟨_, h1⟩
  refine ⟨by rw [hl, hn], a, ha, hfa, N0, fun N h => ?_⟩
  have := hN N h
  rwa [List.drop_zero, List.take_of_length_le (by omega)] at this
theorem opens_array {t e : TypeId} {m k n : Nat} {α : Type} {C : α → List AV} {wf : α → Prop} (ht : P.underlying t = some (.array m e)) (hn : P.cellsOf t = n) (hk : P.cellsOf e = k)
    (hf : OpensF P ((List.range m).map fun i => (e, i * k)) 0 n C wf) : OpensC P t n C wf := by
  intro H enc w fuel cs x h
  obtain ⟨xs, q, _, _, hl, hxl, hel⟩ := DataW.trod_array ht h
  obtain ⟨a, ha, hfa, N0, hN⟩ := hf H enc w q cs fun f hf => by
    obtain ⟨i, hi, rfl⟩ := List.mem_map.1 hf
    have hi' := List.mem_range.1 hi
    have h1 := hel i hi'
    rw [List.getElem?_eq_getElem (by omega), hk] at h1
    rw [hk]
    exact ⟨_, h1⟩
  refine ⟨by rw [hl, hn], a, ha, hfa, N0, fun N h => ?_⟩
  have := hN N h
  rwa [List.drop_zero, List.take_of_length_le (by omega)] at this

/-! Arguments. -/
section
variable {H : Type} {enc : TypeId × Value → H} {w : World} {t : TypeId} {α : Type} [Enc α] {wf : α → Prop} {b0 : Nat} {v : Value} {d : DataW H} {ps : List MemPlace}
theorem open_agg (hs : (∃ fs, P.underlying t = some (.struct fs)) ∨ ∃ n e, P.underlying t = some (.array n e)) (he : Opens P t α wf) (hval : Value.okWide P w .any b0 t v) (h : DataW.Trod enc P w 0 (fun _ => true) true t v d ps) :
    ∃ a : α, wf a ∧ ∃ N0, ∀ N, N0 ≤ N → VR w (bigR N w) (.agg (Enc.cells a)) v := by
  have hv : ∃ cs, v = .agg cs := by
    unfold Value.okWide at hval
    rcases hs with ⟨fs, hs⟩ | ⟨n, e, hs⟩ <;> rw [hs] at hval <;> obtain ⟨cs, rfl, _⟩ := hval <;> exact ⟨cs, rfl⟩
  obtain ⟨cs, rfl⟩ := hv
  obtain ⟨fuel, hf⟩ := h
  obtain ⟨_, a, ha, hfl, N0, hN⟩ := he H enc w fuel _ _ hf
  refine ⟨a, ha, N0, fun N h => ?_⟩
  have h1 := hN N h
  exact .agg _ _ hfl (by simpa [Value.cells] using h1.1) fun j c v h2 h3 => h1.2 j c v h2 (by simpa [Value.cells] using h3)
theorem open_plain (hs : ∀ cs, v ≠ .agg cs) (he : Opens P t α wf) (h : DataW.Trod enc P w 0 (fun _ => true) true t v d ps) :
    ∃ a : α, wf a ∧ ∃ N0, ∀ N, N0 ≤ N → VRs w (bigR N w) (Enc.cells a) [v] := by
  obtain ⟨fuel, hf⟩ := h
  obtain ⟨_, a, ha, _, N0, hN⟩ := he H enc w fuel _ _ hf
  refine ⟨a, ha, N0, fun N h => ?_⟩
  have h1 := hN N h
  have : v.cells.toList = [v] := by
    cases v <;> first | rfl | exact absurd rfl (hs _)
  rwa [this] at h1
theorem VRs.head {R : Nat → Nat} {a : AV} (h : VRs w R [a] [v]) : VR w R a v := h.2 0 a v rfl rfl
theorem open_i64 (ht : P.underlying t = some (.int .i64)) (hval : Value.okWide P w .any b0 t v) (h : DataW.Trod enc P w 0 (fun _ => true) true t v d ps) :
    ∃ n : Int, (-9223372036854775808 ≤ n ∧ n ≤ 9223372036854775807) ∧ ∃ N0, ∀ N, N0 ≤ N → VR w (bigR N w) (.int .i64 n) v := by
  obtain ⟨n, rfl, _⟩ := open_int ht hval h
  obtain ⟨a, ha, N0, hN⟩ := open_plain (fun _ h => by cases h) (opens_int ht) h
  exact ⟨a, ha, N0, fun N h => (hN N h).head⟩
theorem open_byte (ht : P.underlying t = some (.int .u8)) (hval : Value.okWide P w .any b0 t v) (h : DataW.Trod enc P w 0 (fun _ => true) true t v d ps) :
    ∃ n : UInt8, True ∧ ∃ N0, ∀ N, N0 ≤ N → VR w (bigR N w) (.int .u8 n.toNat) v := by
  obtain ⟨n, rfl, _⟩ := open_int ht hval h
  obtain ⟨a, ha, N0, hN⟩ := open_plain (fun _ h => by cases h) (opens_u8 ht) h
  exact ⟨a, ha, N0, fun N h => (hN N h).head⟩
theorem open_w32 (ht : P.underlying t = some (.int .u32)) (hval : Value.okWide P w .any b0 t v) (h : DataW.Trod enc P w 0 (fun _ => true) true t v d ps) :
    ∃ n : UInt32, True ∧ ∃ N0, ∀ N, N0 ≤ N → VR w (bigR N w) (.int .u32 n.toNat) v := by
  obtain ⟨n, rfl, _⟩ := open_int ht hval h
  obtain ⟨a, ha, N0, hN⟩ := open_plain (fun _ h => by cases h) (opens_u32 ht) h
  exact ⟨a, ha, N0, fun N h => (hN N h).head⟩
theorem open_w64 (ht : P.underlying t = some (.int .u64)) (hval : Value.okWide P w .any b0 t v) (h : DataW.Trod enc P w 0 (fun _ => true) true t v d ps) :
    ∃ n : UInt64, True ∧ ∃ N0, ∀ N, N0 ≤ N → VR w (bigR N w) (.int .u64 n.toNat) v := by
  obtain ⟨n, rfl, _⟩ := open_int ht hval h
  obtain ⟨a, ha, N0, hN⟩ := open_plain (fun _ h => by cases h) (opens_u64 ht) h
  exact ⟨a, ha, N0, fun N h => (hN N h).head⟩
theorem open_truth (ht : P.underlying t = some .bool) (hval : Value.okWide P w .any b0 t v) (h : DataW.Trod enc P w 0 (fun _ => true) true t v d ps) :
    ∃ b : Bool, True ∧ ∃ N0, ∀ N, N0 ≤ N → VR w (bigR N w) (.bool b) v := by
  obtain ⟨n, rfl, _⟩ := open_bool ht hval h
  exact ⟨n, trivial, 0, fun N _ => .bool n⟩
theorem open_text (ht : P.underlying t = some .string) (hval : Value.okWide P w .any b0 t v) (h : DataW.Trod enc P w 0 (fun _ => true) true t v d ps) :
    ∃ s : Str, s.b.length ≤ maxLen ∧ ∃ N0, ∀ N, N0 ≤ N → VR w (bigR N w) (.str s.b) v := by
  obtain ⟨n, rfl, _⟩ := Go.ChangeMaps.open_string ht hval h
  obtain ⟨a, ha, N0, hN⟩ := open_plain (fun _ h => by cases h) (opens_str ht) h
  exact ⟨a, ha, N0, fun N h => (hN N h).head⟩
end

theorem args1 {w : World} {R : Nat → Nat} {a0 : AV} {v0 : Value} (h0 : VR w R a0 v0) : ArgsR w R [a0] #[v0] :=
  ⟨rfl, fun j a v h1 h2 => by match j, h1, h2 with | 0, h1, h2 => (cases h1; cases h2; exact h0)⟩
theorem args2 {w : World} {R : Nat → Nat} {a0 a1 : AV} {v0 v1 : Value} (h0 : VR w R a0 v0) (h1 : VR w R a1 v1) : ArgsR w R [a0, a1] #[v0, v1] :=
  ⟨rfl, fun j a v k1 k2 => by match j, k1, k2 with | 0, k1, k2 => (cases k1; cases k2; exact h0) | 1, k1, k2 => (cases k1; cases k2; exact h1)⟩
theorem args3 {w : World} {R : Nat → Nat} {a0 a1 a2 : AV} {v0 v1 v2 : Value} (h0 : VR w R a0 v0) (h1 : VR w R a1 v1) (h2 : VR w R a2 v2) : ArgsR w R [a0, a1, a2] #[v0, v1, v2] :=
  ⟨rfl, fun j a v k1 k2 => by match j, k1, k2 with | 0, k1, k2 => (cases k1; cases k2; exact h0) | 1, k1, k2 => (cases k1; cases k2; exact h1) | 2, k1, k2 => (cases k1; cases k2; exact h2)⟩
end
end Go.AB
end

section
namespace Go.AB
open Go

def fieldsAre (P : Program) (t : TypeId) (L : List (TypeId × Nat)) : Bool := match P.underlying t with
  | some (.struct fs) => fs.toList.map (fun f => (f.type, f.offset)) == L
  | _ => false
theorem opens_fields {P : Program} {t : TypeId} {L : List (TypeId × Nat)} {n : Nat} {α : Type} {C : α → List AV} {wf : α → Prop} (hs : fieldsAre P t L = true) (hn : P.cellsOf t = n) (hf : OpensF P L 0 n C wf) : OpensC P t n C wf := by
  unfold fieldsAre at hs
  split at hs
  · rename_i fs ht
    have he := eq_of_beq hs
    exact opens_struct ht hn (by rw [he]; exact hf)
  · cases hs
end Go.AB
end

section
namespace Go.AB
open Go Go.RowKit Go.ChangeShapes Go.WideShapes

/-- What cells of a Go type read as, up to a depth. -/
def OpensB (K : Nat) (P : Program) (t : TypeId) {α : Type} (n : Nat) (C : α → List AV) (wf : α → Prop) : Prop :=
  ∀ (H : Type) (enc : TypeId × Value → H) (w : World) (fuel : Nat) (cs : List Value) (x : DataW H × List MemPlace), fuel ≤ K → DataW.trod enc P w 0 (fun _ => true) true fuel t cs = some x →
    cs.length = n ∧ ∃ a : α, wf a ∧ Fl (C a) ∧ ∃ N0, ∀ N, N0 ≤ N → VRs w (bigR N w) (C a) cs
def OpensFB (K : Nat) (P : Program) (fs : List (TypeId × Nat)) (o : Nat) {α : Type} (n : Nat) (C : α → List AV) (wf : α → Prop) : Prop :=
  ∀ (H : Type) (enc : TypeId × Value → H) (w : World) (fuel : Nat) (cs : List Value), fuel ≤ K → (∀ f ∈ fs, ∃ x, DataW.trod enc P w 0 (fun _ => true) true fuel f.1 ((cs.drop f.2).take (P.cellsOf f.1)) = some x) →
    ∃ a : α, wf a ∧ Fl (C a) ∧ ∃ N0, ∀ N, N0 ≤ N → VRs w (bigR N w) (C a) ((cs.drop o).take n)

section
variable {P : Program} {t : TypeId}

theorem OpensC.b {n : Nat} {α : Type} {C : α → List AV} {wf : α → Prop} (h : OpensC P t n C wf) (K : Nat) : OpensB K P t n C wf := fun H enc w fuel cs x _ hx => h H enc w fuel cs x hx
theorem OpensB.all {n : Nat} {α : Type} {C : α → List AV} {wf : α → Prop} (h : ∀ K, OpensB K P t n C wf) : OpensC P t n C wf := fun H enc w fuel cs x hx => h fuel H enc w fuel cs x (Nat.le_refl _) hx
theorem OpensB.le {n : Nat} {α : Type} {C : α → List AV} {wf : α → Prop} {K K' : Nat} (h : OpensB K P t n C wf) (hk : K' ≤ K) : OpensB K' P t n C wf := fun H enc w fuel cs x hf hx => h H enc w fuel cs x (Nat.le_trans hf hk) hx
theorem OpensB.zero {n : Nat} {α : Type} {C : α → List AV} {wf : α → Prop} : OpensB 0 P t n C wf := fun H enc w fuel cs x hf hx => by
  have : fuel = 0 := by omega
  subst this
  simp [DataW.trod] at hx
theorem OpensB.map {K n : Nat} {α β : Type} {C : α → List AV} {wf : α → Prop} (h : OpensB K P t n C wf) {C' : β → List AV} {wf' : β → Prop} (g : α → β) (hC : ∀ a, C' (g a) = C a) (hw : ∀ a, wf a → wf' (g a)) : OpensB K P t n C' wf' := by
  intro H enc w fuel cs x hf hx
  obtain ⟨h1, a, h2, h3, N0, h4⟩ := h H enc w fuel cs x hf hx
  exact ⟨h1, g a, hw a h2, by rw [hC]; exact h3, N0, by rw [hC]; exact h4⟩

theorem opensFB_nil {K o : Nat} : OpensFB K P [] o 0 (fun _ : Unit => []) fun _ => True :=
  fun _ _ _ _ _ _ _ => ⟨(), trivial, (fun _ h => absurd h List.not_mem_nil), 0, fun _ _ => ⟨by simp, fun j a v h => by simp at h⟩⟩
theorem opensFB_cons {K : Nat} {t : TypeId} {o n1 n2 : Nat} {fs : List (TypeId × Nat)} {α β : Type} {C1 : α → List AV} {C2 : β → List AV} {wf1 : α → Prop} {wf2 : β → Prop}
    (h1 : OpensB K P t n1 C1 wf1) (hc : P.cellsOf t = n1) (h2 : OpensFB K P fs (o + n1) n2 C2 wf2) : OpensFB K P ((t, o) :: fs) o (n1 + n2) (fun p : α × β => C1 p.1 ++ C2 p.2) fun p => wf1 p.1 ∧ wf2 p.2 := by
  intro H enc w fuel cs hk h
  obtain ⟨x, hx⟩ := h _ List.mem_cons_self
  obtain ⟨_, a, ha, hfa, N1, hN1⟩ := h1 H enc w fuel _ x hk hx
  obtain ⟨b, hb, hfb, N2, hN2⟩ := h2 H enc w fuel cs hk fun f hf => h f (List.mem_cons_of_mem _ hf)
  refine ⟨(a, b), ⟨ha, hb⟩, fun c hc => (List.mem_append.1 hc).elim (hfa c) (hfb c), max N1 N2, fun N hN => ?_⟩
  rw [List.take_add, List.drop_drop]
  refine VRs.append ?_ (hN2 N (by omega))
  rw [← hc]
  exact hN1 N (by omega)

theorem opens_fieldsB {K : Nat} {L : List (TypeId × Nat)} {n : Nat} {α : Type} {C : α → List AV} {wf : α → Prop} (hs : fieldsAre P t L = true) (hn : P.cellsOf t = n) (hf : OpensFB K P L 0 n C wf) : OpensB (K + 1) P t n C wf := by
  unfold fieldsAre at hs
  split at hs
  · rename_i fs ht
    have he := eq_of_beq hs
    subst he
    intro H enc w fuel cs x hk h
    obtain ⟨xs, m, rfl, _, hl, hxl, hel⟩ := DataW.trod_struct ht h
    obtain ⟨a, ha, hfa, N0, hN⟩ := hf H enc w m cs (by omega) fun f hf => by
      obtain ⟨g, hg, rfl⟩ := List.mem_map.1 hf
      obtain ⟨i, hi⟩ := List.getElem?_of_mem hg
      have h1 := hel i g (by rw [← Array.getElem?_toList]; exact hi)
      have hi' := (List.getElem?_eq_some_iff.1 hi).1
      rw [List.getElem?_eq_getElem (by simpa [hxl] using hi')] at h1
      exact ⟨_, h1⟩
    refine ⟨by rw [hl, hn], a, ha, hfa, N0, fun N h => ?_⟩
    have := hN N h
    rwa [List.drop_zero, List.take_of_length_le (by omega)] at this
  · cases hs

/-- A slice of them, as a cell. -/
theorem slice_cell {w : World} {α : Type} [Enc α] {wf : α → Prop} {a : Addr} {len cap : Nat} (hl : len ≤ cap) (hm : cap ≤ maxLen)
    (each : ∀ i, i < len → ∃ x : α × List Value, wf x.1 ∧ Fl (Enc.cells x.1) ∧ w.cells? 0 (a.add (i * Enc.w α)) (Enc.w α) = some x.2 ∧ ∃ N0, ∀ N, N0 ≤ N → VRs w (bigR N w) (Enc.cells x.1) x.2) :
    ∃ l : List α, (l.length ≤ maxLen ∧ ∀ a ∈ l, wf a) ∧ Fl [.sl false (Enc.w α) l.length (flat l)] ∧ ∃ N0, ∀ N, N0 ≤ N → VRs w (bigR N w) [.sl false (Enc.w α) l.length (flat l)] [.slice (some a) len cap] := by
  have hw : 0 < Enc.w α := Enc.pos
  rcases Nat.eq_zero_or_pos len with h0 | h0
  · subst h0
    exact ⟨[], ⟨Nat.zero_le _, fun _ h => absurd h List.not_mem_nil⟩, fl_one rfl, 0, fun N _ => .one (.sle _ _ _)⟩
  obtain ⟨b, off, spot⟩ := a
  have hplain : spot = none ∧ b < w.heap.size := by
    obtain ⟨x, _, _, h2, _⟩ := each 0 h0
    obtain ⟨_, h3, h4⟩ := World.cells?_some h2
    have h5 := h4 0 hw
    have hxl : 0 < x.2.length := by omega
    rw [List.getElem?_eq_getElem hxl] at h5
    unfold World.cell? at h5
    have e1 : (((⟨b, off, spot⟩ : Addr).add (0 * Enc.w α)).add 0).block = b := by
      unfold Addr.add; repeat' split
      all_goals rfl
    have e2 : (((⟨b, off, spot⟩ : Addr).add (0 * Enc.w α)).add 0).spot.isSome = spot.isSome := by
      cases spot with
      | none => unfold Addr.add; repeat' split
                all_goals simp_all
      | some q => unfold Addr.add; repeat' split
                  all_goals simp_all
    rw [e1, e2] at h5
    split at h5
    · rename_i hh
      refine ⟨?_, (Array.getElem?_eq_some_iff.1 hh).1⟩
      cases spot with
      | none => rfl
      | some q => simp at h5
    · cases h5
  obtain ⟨rfl, hb⟩ := hplain
  obtain ⟨L, hL, hQ⟩ := choose_list len each
  have hx : ∀ i, i < len → ∃ x, L[i]? = some x := fun i hi => ⟨L[i]'(by omega), List.getElem?_eq_getElem (by omega)⟩
  obtain ⟨N0, hN0⟩ := common (Q := fun i N => ∀ x, L[i]? = some x → VRs w (bigR N w) (Enc.cells x.1) x.2) len fun i hi => by
    obtain ⟨x, hx⟩ := hx i hi
    obtain ⟨_, _, _, N0, h⟩ := hQ i x hx
    exact ⟨N0, fun N hN y hy => by rw [hx] at hy; cases hy; exact h N hN⟩
  have hwf : ∀ a ∈ L.map (·.1), wf a ∧ Fl (Enc.cells a) := by
    intro a ha
    obtain ⟨x, hx, rfl⟩ := List.mem_map.1 ha
    obtain ⟨i, hi⟩ := List.getElem?_of_mem hx
    have := hQ i x hi
    exact ⟨this.1, this.2.1⟩
  have hget : ∀ (j : Nat) (c : AV), (flat (L.map (·.1)))[j]? = some c → ∃ v, w.cell? ⟨b, off + j, none⟩ = some v ∧ ∀ N, N0 ≤ N → VR w (bigR N w) c v := by
    intro j c hj
    have hjl := (List.getElem?_eq_some_iff.1 hj).1
    rw [flat_len, List.length_map, hL] at hjl
    have hi : j / Enc.w α < len := Nat.div_lt_of_lt_mul (by rw [Nat.mul_comm]; exact hjl)
    have hr : j % Enc.w α < Enc.w α := Nat.mod_lt _ hw
    have hje : j = j / Enc.w α * Enc.w α + j % Enc.w α := by rw [Nat.mul_comm]; exact (Nat.div_add_mod _ _).symm
    obtain ⟨x, hx⟩ := hx _ hi
    have h1 := flat_get (L.map (·.1)) (i := j / Enc.w α) (a := x.1) (by rw [List.getElem?_map, hx]; rfl) hr
    rw [← hje, hj] at h1
    obtain ⟨_, _, h2, _⟩ := hQ _ x hx
    obtain ⟨_, h3, h4⟩ := World.cells?_some h2
    have h5 := h4 _ hr
    rw [add_plain, add_plain, Nat.add_assoc, ← hje] at h5
    refine ⟨x.2[j % Enc.w α]'(by omega), by rw [h5, List.getElem?_eq_getElem], fun N hN => ?_⟩
    exact (hN0 N hN _ hi x hx).2 _ _ _ h1.symm (List.getElem?_eq_getElem _)
  refine ⟨L.map (·.1), ⟨by rw [List.length_map, hL]; omega, fun a ha => (hwf a ha).1⟩, fl_one rfl, max N0 (off + len * Enc.w α), fun N hN => .one ?_⟩
  rw [List.length_map, hL]
  refine .sl false (Enc.w α) len _ b off cap (fun j => (w.cell? ⟨b, off + j, none⟩).getD default) ?_ ?_ ?_ hl ?_ ?_
  · intro c hcm
    unfold flat at hcm
    obtain ⟨l, hl, hcl⟩ := List.mem_flatten.1 hcm
    obtain ⟨a, ha, rfl⟩ := List.mem_map.1 hl
    exact (hwf a ha).2 c hcl
  · rw [flat_len, List.length_map, hL]
  · rw [flat_len, List.length_map, hL]
    unfold bigR
    rw [if_pos hb]; omega
  · intro j c hj
    obtain ⟨v, h1, _⟩ := hget j c hj
    rw [h1]; rfl
  · intro j c hj
    obtain ⟨v, h1, h2⟩ := hget j c hj
    simp only [h1, Option.getD_some]; exact h2 N (by omega)

theorem opens_sliceB {K : Nat} {e : TypeId} {α : Type} [Enc α] {wf : α → Prop} (ht : P.underlying t = some (.slice e)) (hc : P.cellsOf e = Enc.w α) (he : OpensB K P e (Enc.w α) (Enc.cells : α → List AV) wf) :
    OpensB (K + 1) P t 1 (fun l : List α => [.sl false (Enc.w α) l.length (flat l)]) fun l => l.length ≤ maxLen ∧ ∀ a ∈ l, wf a := by
  intro H enc w fuel cs x hk h
  rcases DataW.trod_slice ht h with ⟨rfl, _⟩ | ⟨a, len, cap, elems, rest, n, rfl, rfl, _, _, hl, hm, hlen, hel, _⟩
  · exact ⟨rfl, [], ⟨Nat.zero_le _, fun _ h => absurd h List.not_mem_nil⟩, fl_one rfl, 0, fun N _ => .one (.slnil _ _)⟩
  · refine ⟨rfl, slice_cell hl hm fun i hi => ?_⟩
    have h1 := hel i hi
    rw [hc, List.getElem?_eq_getElem (by omega), Option.bind_eq_some_iff] at h1
    obtain ⟨cs, h2, h3⟩ := h1
    obtain ⟨_, x, h4, h5, h6⟩ := he H enc w n cs _ (by omega) h3
    exact ⟨(x, cs), h4, h5, h2, h6⟩
theorem opens_sliceC {e : TypeId} {α : Type} [Enc α] {wf : α → Prop} (ht : P.underlying t = some (.slice e)) (hc : P.cellsOf e = Enc.w α) (he : Opens P e α wf) :
    OpensC P t 1 (fun l : List α => [.sl false (Enc.w α) l.length (flat l)]) fun l => l.length ≤ maxLen ∧ ∀ a ∈ l, wf a :=
  OpensB.all fun K => (opens_sliceB ht hc (OpensC.b he K)).le (Nat.le_succ K)

theorem fieldsAre_ex {L : List (TypeId × Nat)} (hs : fieldsAre P t L = true) : ∃ fs, P.underlying t = some (.struct fs) := by
  unfold fieldsAre at hs
  split at hs
  · rename_i fs ht; exact ⟨fs, ht⟩
  · cases hs
theorem okWide_slice {w : World} {e : TypeId} {b0 : Nat} {v : Value} (ht : P.underlying t = some (.slice e)) (hval : Value.okWide P w .any b0 t v) : ∀ cs, v ≠ .agg cs := by
  intro cs h
  subst h
  unfold Value.okWide Cell.okWide Cell.ok at hval
  rw [ht] at hval
  exact hval
/-- An argument that is a slice. -/
theorem open_row {H : Type} {enc : TypeId × Value → H} {w : World} {e : TypeId} {α : Type} [Enc α] {wf : α → Prop} {v : Value} {d : DataW H} {ps : List MemPlace}
    (ht : P.underlying t = some (.slice e)) (hc : P.cellsOf e = Enc.w α) (he : Opens P e α wf) (h : DataW.Trod enc P w 0 (fun _ => true) true t v d ps) (hv : ∀ cs, v ≠ .agg cs) :
    ∃ l : List α, (l.length ≤ maxLen ∧ ∀ a ∈ l, wf a) ∧ ∃ N0, ∀ N, N0 ≤ N → VR w (bigR N w) (.sl false (Enc.w α) l.length (flat l)) v := by
  obtain ⟨fuel, hf⟩ := h
  obtain ⟨_, l, hl, _, N0, hN⟩ := opens_sliceC ht hc he H enc w fuel _ _ hf
  have hcells : v.cells.toList = [v] := by
    cases v <;> first | rfl | exact absurd rfl (hv _)
  refine ⟨l, hl, N0, fun N h => ?_⟩
  have := hN N h
  rw [hcells] at this
  exact this.head
end
end Go.AB
end

section
set_option linter.unusedSimpArgs false
namespace Go.AB
open Go Go.ChangeShapes Go.WideShapes Go.ChangeAt Go.RowKit Go.Proofs.Ytpioecahefokmaa Go.Proofs

inductive wf_api_Value : api_Value → Prop where
  | mk (x : api_Value) (h1 : -9223372036854775808 ≤ x.Kind ∧ x.Kind ≤ 9223372036854775807) (h2 : -9223372036854775808 ≤ x.N ∧ x.N ≤ 9223372036854775807) (h3 : x.S.b.length ≤ maxLen) (h4 : x.L.length ≤ maxLen) (h5 : ∀ v ∈ x.L, wf_api_Value v) : wf_api_Value x
theorem opens_24 : Opens Go.Proofs.Try.prog 24 api_Value wf_api_Value := by
  refine OpensB.all fun K => ?_
  induction K using Nat.strongRecOn with | ind K ih =>
  cases K with
  | zero => exact OpensB.zero
  | succ K =>
    have hs : OpensB K Go.Proofs.Try.prog 22 1 (fun l : List api_Value => [.sl false 4 l.length (flat l)]) (fun l => l.length ≤ maxLen ∧ ∀ a ∈ l, wf_api_Value a) := by
      cases K with
      | zero => exact OpensB.zero
      | succ k => exact opens_sliceB (by kernel_rfl) (by kernel_rfl) (ih k (by omega))
    exact OpensB.map (opens_fieldsB (L := [(3, 0), (3, 1), (9, 2), (22, 3)]) (by kernel_rfl) (by kernel_rfl) (opensFB_cons ((opens_int (P := Go.Proofs.Try.prog) (t := 3) (by kernel_rfl)).b K) (by kernel_rfl) (opensFB_cons ((opens_int (P := Go.Proofs.Try.prog) (t := 3) (by kernel_rfl)).b K) (by kernel_rfl) (opensFB_cons ((opens_str (P := Go.Proofs.Try.prog) (t := 9) (by kernel_rfl)).b K) (by kernel_rfl) (opensFB_cons hs (by kernel_rfl) opensFB_nil)))))
      (fun p => ⟨p.1, p.2.1, p.2.2.1, p.2.2.2.1⟩) (fun p => by rw [cells_api_Value]; rfl) (fun p h => .mk _ h.1 h.2.1 h.2.2.1 h.2.2.2.1.1 h.2.2.2.1.2)
def wf_api_Object (x : api_Object) : Prop := wf_api_Value x.V ∧ True ∧ x.Data.b.length ≤ maxLen ∧ True
theorem opens_48 : Opens Go.Proofs.Try.prog 48 api_Object wf_api_Object :=
  OpensC.map (opens_fields (L := [(24, 0), (4, 4), (9, 5)]) (by kernel_rfl) (by kernel_rfl) (opensF_cons opens_24 (by kernel_rfl) (opensF_cons (opens_bool (P := Go.Proofs.Try.prog) (t := 4) (by kernel_rfl)) (by kernel_rfl) (opensF_cons (opens_str (P := Go.Proofs.Try.prog) (t := 9) (by kernel_rfl)) (by kernel_rfl) opensF_nil))))
    (fun p => ⟨p.1, p.2.1, p.2.2.1⟩) (fun p => by first | rfl | (simp only [cells_api_Value, cells_api_Object]; rfl)) (fun _ h => h)
theorem opens_32 : OpensC Go.Proofs.Try.prog 32 1 (fun l : List api_Object => [.sl false 6 l.length (flat l)]) (fun l => l.length ≤ maxLen ∧ ∀ a ∈ l, wf_api_Object a) := opens_sliceC (by kernel_rfl) (by kernel_rfl) opens_48
def wf_api_Doc (x : api_Doc) : Prop := (x.Objects.length ≤ maxLen ∧ ∀ a ∈ x.Objects, wf_api_Object a) ∧ (-9223372036854775808 ≤ x.Root ∧ x.Root ≤ 9223372036854775807) ∧ True
theorem opens_34 : Opens Go.Proofs.Try.prog 34 api_Doc wf_api_Doc :=
  OpensC.map (opens_fields (L := [(32, 0), (3, 1)]) (by kernel_rfl) (by kernel_rfl) (opensF_cons opens_32 (by kernel_rfl) (opensF_cons (opens_int (P := Go.Proofs.Try.prog) (t := 3) (by kernel_rfl)) (by kernel_rfl) opensF_nil)))
    (fun p => ⟨p.1, p.2.1⟩) (fun p => by first | rfl | (simp only [cells_api_Value, cells_api_Doc]; rfl)) (fun _ h => h)
theorem opens_28 : OpensC Go.Proofs.Try.prog 28 1 (fun l : List Int => [.sl false 1 l.length (flat l)]) (fun l => l.length ≤ maxLen ∧ ∀ a ∈ l, (-9223372036854775808 ≤ a ∧ a ≤ 9223372036854775807)) := opens_sliceC (by kernel_rfl) (by kernel_rfl) (opens_int (P := Go.Proofs.Try.prog) (t := 3) (by kernel_rfl))
def wf_ref20_Leaf (x : ref20_Leaf) : Prop := (-9223372036854775808 ≤ x.Page ∧ x.Page ≤ 9223372036854775807) ∧ (x.Path.length ≤ maxLen ∧ ∀ a ∈ x.Path, (-9223372036854775808 ≤ a ∧ a ≤ 9223372036854775807)) ∧ wf_api_Value x.Given ∧ True
theorem opens_36 : Opens Go.Proofs.Try.prog 36 ref20_Leaf wf_ref20_Leaf :=
  OpensC.map (opens_fields (L := [(3, 0), (28, 1), (24, 2)]) (by kernel_rfl) (by kernel_rfl) (opensF_cons (opens_int (P := Go.Proofs.Try.prog) (t := 3) (by kernel_rfl)) (by kernel_rfl) (opensF_cons opens_28 (by kernel_rfl) (opensF_cons opens_24 (by kernel_rfl) opensF_nil))))
    (fun p => ⟨p.1, p.2.1, p.2.2.1⟩) (fun p => by first | rfl | (simp only [cells_api_Value, cells_ref20_Leaf]; rfl)) (fun _ h => h)
theorem law21_ReachClosed_own : ownKnob Try.prog.godebug = none := by kernel_rfl
theorem law21_ReachClosed_laid : laidOutB Try.prog = true := by kernel_rfl
theorem law21_ReachClosed_ub : Try.prog.underlying 4 = some .bool := by kernel_rfl
set_option maxRecDepth 100000 in
theorem law21_ReachClosed_law {H : Type} {enc : TypeId × Value → H} {W : World} {base : Nat} {args : Array Value} {ds gs : List (DataW H)} {before : List MemPlace}
    (hval0 : ∀ (j : Nat) t v, Try.f4.params[j]? = some t → args[j]? = some v → Value.okWide Try.prog W .any base t v)
    (hW : DataW.Whole enc Try.prog Try.f4.params.toList Rows.reachClosedSpec.vars false W args.toList ds gs before) :
    Calls Try.prog 4 args W fun e w' => e = .returned (.bool true) ∧ Below W.heap.size W w' := by
  obtain ⟨p, q, hA0, hV, rfl, hfz, hnd⟩ := hW
  have hval := hval0
  have hA : DataW.TrodAll enc Try.prog W 0 (fun _ => true) true Try.f4.params.toList args.toList ds p := hA0
  have hp : Try.f4.params = #[34, 36] := by kernel_rfl
  rw [hp] at hA hval
  obtain ⟨v0, v1, d0, d1, p0, p1, rfl, rfl, rfl, h0, h1⟩ := trodAll_two hA
  obtain ⟨x0, w0, N0, k0⟩ := open_agg (.inl (fieldsAre_ex (L := [(32, 0), (3, 1)]) (by kernel_rfl))) opens_34 (hval 0 34 v0 rfl rfl) h0
  obtain ⟨x1, w1, N1, k1⟩ := open_agg (.inl (fieldsAre_ex (L := [(3, 0), (28, 1), (24, 2)]) (by kernel_rfl))) opens_36 (hval 1 36 v1 rfl rfl) h1
  refine law_calls' (max N0 N1) ?_ (args2 (k0 _ (by omega)) (k1 _ (by omega)))
  exact (law21_ReachClosed_fe (law21_ReachClosed_true x0 x1)).app rfl

end Go.AB
namespace Go.Proofs.Ytpioecahefokmaa
open Go.ChangeShapes Go.WideShapes Go.ChangeAt Go.RowKit
set_option maxRecDepth 100000 in
theorem reachClosed_lifted (os : Os) (started : os.Started) (H : Type) (enc : TypeId × Value → H) :
    ReturnsInHanded {} Try.checked os 4 .any (Rows.reachClosedSpec.pre6 enc Try.prog Try.f4 Rows.reachClosedRow.domain false) (Rows.reachClosedSpec.post enc Try.prog Try.f4 false true false false) := by
  refine returnsInHanded_of_change (C := Try.checked) AB.law21_ReachClosed_own started (by kernel_rfl) Try.func4
    (ChangeSpec.witness6 (enc := enc) (C := Try.checked) false ⟨#[], #[.agg #[.slice none 0 0, .int .i64 0], .agg #[.int .i64 0, .slice none 0 0, .int .i64 0, .int .i64 0, .string ⟨#[]⟩, .slice none 0 0]], []⟩ 8 (by kernel_rfl) (by kernel_rfl) (by kernel_rfl) (by kernel_rfl)) ?_
  intro W base args ds gs before hval hW _ _
  exact AB.law_post rfl (by kernel_rfl) AB.law21_ReachClosed_ub AB.law21_ReachClosed_laid (of_decide_eq_true (by kernel_rfl)) (fun ds h => by
    match ds, h with
    | [_, _], _ => rfl) hW (AB.law21_ReachClosed_law hval hW)

theorem reachClosed_holds : Rows.ReachClosedSaid :=
  OpenClaim.holds_of_wide 4 Try.f4 rfl rfl rfl rfl rfl rfl rfl ⟨rfl, rfl, rfl, rfl, rfl⟩ rfl rfl rfl rfl rfl (by kernel_rfl) Try.func4 (by kernel_rfl)
    (of_decide_eq_true (by kernel_rfl)) (by unfold Func.isWrapper; first | (rw [if_pos (by decide +kernel)]; kernel_rfl) | (rw [if_neg (by decide +kernel)]; exact ⟨rfl, rfl⟩))
    (fun os started H enc _ => reachClosed_lifted os started H enc)
end Go.Proofs.Ytpioecahefokmaa
end
