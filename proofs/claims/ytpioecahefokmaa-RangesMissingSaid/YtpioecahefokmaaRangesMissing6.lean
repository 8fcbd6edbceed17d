/- The law RangesMissing returns true for every input; each argument reads behind the call as it read before. No condition. -/
import Derived.Test.YtpioecahefokmaaRangesMissing5
import Derived.Test.YtpioecahefokmaaRangesMissing4
import Derived.ProofKit
import Derived.OpenShut
import Derived.ChangeCalls
import Derived.Test.YtpioecahefokmaaRows
import Derived.JoinedCond
set_option linter.unusedSimpArgs false
set_option linter.unusedVariables false
section
namespace Go.AB
open Go

theorem empty_spV (x : api_Span) : span_empty x = some (!spV x) := by
  unfold span_empty spV; simp
theorem inL_form {l : List api_Span} (h : Form l) {p : Int} : inL p l ↔ spMem p l :=
  ⟨fun ⟨x, hx, _, hp⟩ => ⟨x, hx, hp⟩, fun ⟨x, hx, hp⟩ => ⟨x, hx, spV_iff.2 (h.1 x hx), hp⟩⟩
theorem inL_append {l m : List api_Span} {p : Int} : inL p (l ++ m) ↔ inL p l ∨ inL p m := by
  unfold inL
  constructor
  · rintro ⟨x, hx, h⟩
    rcases List.mem_append.1 hx with hx | hx
    · exact .inl ⟨x, hx, h⟩
    · exact .inr ⟨x, hx, h⟩
  · rintro (⟨x, hx, h⟩ | ⟨x, hx, h⟩)
    · exact ⟨x, List.mem_append_left _ hx, h⟩
    · exact ⟨x, List.mem_append_right _ hx, h⟩
theorem inL_one {x : api_Span} {p : Int} : inL p [x] ↔ spV x = true ∧ spIn p x := by
  unfold inL; simp
theorem room_of {n : Nat} (h : n ≤ 100000000) : n * 16 ≤ room := by unfold room; omega
theorem set_put {l : List api_Span} {x : api_Span} (h : Form l) (hi : SpI l) (hx : x.To ≤ 9223372036854775807) (hr : l.length + 1 ≤ 100000000) :
    ∃ l', Set_Put l x = some l' ∧ Form l' ∧ SpI l' ∧ l'.length ≤ l.length + 1 ∧ ∀ p, spMem p l' ↔ spMem p l ∨ (spV x = true ∧ spIn p x) := by
  have e1 : (l ++ [x]).length = l.length + 1 := by simp
  have hsp : SpI (l ++ [x]) := fun y hy => by
    rcases List.mem_append.1 hy with hy | hy
    · exact hi y hy
    · obtain rfl := List.mem_singleton.1 hy; exact hx
  obtain ⟨f1, f2, f3⟩ := join0_form hsp
  refine ⟨join0 (l ++ [x]), need_of (room_of hr) (span_Join0 (by rw [e1]; exact room_of hr)), f1, f2, by have := join0_len (l ++ [x]); omega, fun p => ?_⟩
  refine (f3 p).trans ?_
  rw [inL_append, inL_one, inL_form h]
theorem take_mem {l : List api_Span} {k : Nat} (hk : k < l.length) {p : Int} : spMem p (l.take (k + 1)) ↔ spMem p (l.take k) ∨ spIn p l[k] := by
  rw [List.take_succ_eq_append_getElem hk, spMem_append, spMem_one]
theorem form_lt {l : List api_Span} (h : Form l) {k : Nat} (hk : k < l.length) {y : api_Span} (hy : y ∈ l.take k) : y.To < l[k].From := by
  obtain ⟨j, hj, rfl⟩ := List.getElem_of_mem hy
  rw [List.length_take] at hj
  rw [List.getElem_take]
  exact List.pairwise_iff_getElem.1 h.2 j k (by omega) hk (by omega)
structure MissI (l : List api_Span) (x : api_Span) (k : Nat) (out : List api_Span) (at_ : Int) : Prop where
  form : Form out
  to_ : ∀ a ∈ out, a.To ≤ x.To
  len : out.length ≤ k
  lo : x.From ≤ at_
  hi : at_ ≤ x.To
  gap : (∀ a ∈ out, a.To < at_) ∨ at_ = x.To
  pre : ∀ y ∈ l.take k, min y.To x.To ≤ at_
  came : at_ = x.From ∨ ∃ y ∈ l.take k, at_ ≤ y.To
  mem : ∀ p, spMem p out ↔ x.From ≤ p ∧ p < at_ ∧ ¬ spMem p (l.take k)
theorem missPut_eq {at_ t : Int} {out : List api_Span} (h : out.length + 1 ≤ 100000000) : missPut at_ out t = some (if at_ < t then out ++ [⟨at_, t⟩] else out) := by
  unfold missPut
  by_cases hc : at_ < t
  · rw [if_pos (decide_eq_true hc), if_pos hc, need_pos (room_of h)]
  · rw [if_neg (by simpa using hc), if_neg hc]
theorem MissI.push {l : List api_Span} {x : api_Span} {k : Nat} {out : List api_Span} {at_ t : Int} (h : MissI l x k out at_) (h0 : 0 ≤ x.From) (ht : t ≤ x.To) (hc : at_ < t) : Form (out ++ [⟨at_, t⟩]) ∧ ∀ a ∈ out, a.To < at_ := by
  have hg : ∀ a ∈ out, a.To < at_ := by
    rcases h.gap with hg | hg
    · exact hg
    · omega
  have := h.lo
  exact ⟨h.form.snoc (by simp only; omega) (fun a ha => hg a ha), hg⟩
theorem MissI.step {l : List api_Span} {x : api_Span} {k : Nat} {out : List api_Span} {at_ : Int} (hl : Form l) (h0 : 0 ≤ x.From) (hk : k < l.length) (h : MissI l x k out at_) :
    MissI l x (k + 1) (if at_ < min l[k].From x.To then out ++ [⟨at_, min l[k].From x.To⟩] else out) (max at_ (min l[k].To x.To)) := by
  have hy := hl.1 l[k] (List.getElem_mem hk)
  have hlt := fun y (h : y ∈ l.take k) => form_lt hl hk h
  have hin : ∀ y, y ∈ l.take (k + 1) ↔ y ∈ l.take k ∨ y = l[k] := fun y => by rw [List.take_succ_eq_append_getElem hk, List.mem_append, List.mem_singleton]
  have htm := fun p => take_mem hk (p := p)
  generalize l[k] = y at *
  obtain ⟨hf, hto, hlen, hlo, hhi, hgap, hpre, hcame, hmem⟩ := id h
  have hpre' : ∀ z ∈ l.take (k + 1), min z.To x.To ≤ max at_ (min y.To x.To) := fun z hz => by
    rcases (hin z).1 hz with hz | rfl
    · have := hpre z hz; omega
    · omega
  have hcame' : max at_ (min y.To x.To) = x.From ∨ ∃ z ∈ l.take (k + 1), max at_ (min y.To x.To) ≤ z.To := by
    by_cases hc : at_ ≤ y.To
    · exact .inr ⟨y, (hin y).2 (.inr rfl), by omega⟩
    · have e : max at_ (min y.To x.To) = at_ := by omega
      rw [e]
      rcases hcame with hcame | ⟨z, hz, hz2⟩
      · exact .inl hcame
      · exact .inr ⟨z, (hin z).2 (.inl hz), hz2⟩
  by_cases hc : at_ < min y.From x.To
  · rw [if_pos hc]
    obtain ⟨hp1, hp2⟩ := h.push h0 (Int.min_le_right _ _) hc
    refine ⟨hp1, fun a ha => ?_, by simp; omega, by omega, by omega, ?_, hpre', hcame', fun p => ?_⟩
    · rcases List.mem_append.1 ha with ha | ha
      · exact hto a ha
      · obtain rfl := List.mem_singleton.1 ha; simp only; omega
    · by_cases hy2 : y.From < x.To
      · refine .inl fun a ha => ?_
        rcases List.mem_append.1 ha with ha | ha
        · have := hp2 a ha; omega
        · obtain rfl := List.mem_singleton.1 ha; simp only; omega
      · exact .inr (by omega)
    · rw [spMem_append, spMem_one, hmem, htm]
      show _ ∨ (at_ ≤ p ∧ p < min y.From x.To) ↔ _
      constructor
      · rintro (⟨a1, a2, a3⟩ | ⟨a1, a2⟩)
        · exact ⟨a1, by omega, fun h => h.elim a3 fun hin => by have := hin.1; omega⟩
        · refine ⟨by omega, by omega, fun h => h.elim (fun ⟨z, hz, hz2⟩ => ?_) fun hin => by have := hin.1; omega⟩
          have := hpre z hz
          have := hz2.2
          omega
      · rintro ⟨a1, a2, a3⟩
        by_cases hpa : p < at_
        · exact .inl ⟨a1, hpa, fun h => a3 (.inl h)⟩
        · refine .inr ⟨by omega, ?_⟩
          by_cases hq : p < min y.From x.To
          · exact hq
          · exact absurd (Or.inr ⟨by omega, by omega⟩ : spMem p (l.take k) ∨ spIn p y) a3
  · rw [if_neg hc]
    refine ⟨hf, hto, by omega, by omega, by omega, ?_, hpre', hcame', fun p => ?_⟩
    · rcases hgap with hgap | hgap
      · exact .inl fun a ha => by have := hgap a ha; omega
      · exact .inr (by omega)
    · rw [hmem, htm]
      constructor
      · rintro ⟨a1, a2, a3⟩
        refine ⟨a1, by omega, fun h => h.elim a3 fun hin => ?_⟩
        have := hin.1
        rcases hcame with hcame | ⟨z, hz, hz2⟩
        · omega
        · have := hlt z hz; omega
      · rintro ⟨a1, a2, a3⟩
        by_cases hpa : p < at_
        · exact ⟨a1, hpa, fun h => a3 (.inl h)⟩
        · exact absurd (Or.inr ⟨by omega, by omega⟩ : spMem p (l.take k) ∨ spIn p y) a3
theorem miss_runs {l : List api_Span} {x : api_Span} (hl : Form l) (h0 : 0 ≤ x.From) (hr : l.length + 1 ≤ 100000000) : ∀ (m k : Nat) (out : List api_Span) (at_ : Int), k + m = l.length → MissI l x k out at_ →
    ∃ out' at', Runs (missB x l) (m + 1) (out, at_, (k : Int)) (out', at') ∧ MissI l x l.length out' at'
  | 0, k, out, at_, hk, h => ⟨out, at_, .stop (by simp only [missB]; exact if_not (by simp; omega) rfl), by rw [show l.length = k by omega]; exact h⟩
  | m + 1, k, out, at_, hk, h => by
    have hkl : k < l.length := by omega
    have e : ix l (k : Int) = l[k] := ix_nat hkl
    have hlen := h.len
    obtain ⟨out', at', h1, h2⟩ := miss_runs hl h0 hr m (k + 1) _ _ (by omega) (h.step hl h0 hkl)
    refine ⟨out', at', .step ?_ h1, h2⟩
    simp only [missB]
    refine if_of (decide_eq_true (by omega)) (need_of ⟨by omega, by omega⟩ (bnd_of (missPut_eq (by omega)) ?_))
    rw [w64_id (by omega) (by omega), e]
    rfl
theorem set_missing {l : List api_Span} {x : api_Span} (hl : Form l) (hr : l.length + 2 ≤ 100000000) :
    ∃ ms, Set_Missing l x = some ms ∧ Form ms ∧ ms.length ≤ l.length + 1 ∧ (∀ a ∈ ms, a.To ≤ x.To) ∧ ∀ p, spMem p ms ↔ spV x = true ∧ spIn p x ∧ ¬ spMem p l := by
  unfold Set_Missing
  cases hv : spV x with
  | false =>
    refine ⟨[], bnd_of (empty_spV x) (by rw [hv]; rfl), ⟨fun _ h => absurd h List.not_mem_nil, List.Pairwise.nil⟩, by simp, fun _ h => absurd h List.not_mem_nil, fun p => ⟨fun ⟨_, h, _⟩ => absurd h List.not_mem_nil, fun h => Bool.noConfusion h.1⟩⟩
  | true =>
    have hx := spV_iff.1 hv
    have i0 : MissI l x 0 [] x.From := ⟨⟨fun _ h => absurd h List.not_mem_nil, List.Pairwise.nil⟩, fun _ h => absurd h List.not_mem_nil, by simp, by omega, by omega, .inl fun _ h => absurd h List.not_mem_nil, fun y hy => by simp at hy, .inl rfl, fun p => ⟨fun ⟨_, h, _⟩ => absurd h List.not_mem_nil, fun h => by omega⟩⟩
    obtain ⟨out, at_, h1, h2⟩ := miss_runs hl hx.1 (by omega) l.length 0 [] x.From (by omega) i0
    have hlen := h2.len
    have hpre : ∀ {p : Int}, p < x.To → ¬ p < at_ → ¬ spMem p l := fun hp1 hp2 ⟨z, hz, hz2⟩ => by
      have := h2.pre z (by rw [List.take_length]; exact hz)
      have := hz2.2
      omega
    have hmem : ∀ p, spMem p out ↔ x.From ≤ p ∧ p < at_ ∧ ¬ spMem p l := fun p => by have := h2.mem p; rwa [List.take_length] at this
    refine ⟨if at_ < x.To then out ++ [⟨at_, x.To⟩] else out, bnd_of (empty_spV x) (by
      rw [hv]
      exact bnd_of (need_of (room_of (by omega)) rfl) (bnd_of (h1.iter (by omega)) (missPut_eq (by omega)))), ?_, ?_, ?_, fun p => ?_⟩
    · split
      · exact (h2.push hx.1 (Int.le_refl _) (by assumption)).1
      · exact h2.form
    · split
      · simp; omega
      · omega
    · split
      · intro a ha
        rcases List.mem_append.1 ha with ha | ha
        · exact h2.to_ a ha
        · obtain rfl := List.mem_singleton.1 ha; exact Int.le_refl _
      · exact h2.to_
    · have hhi := h2.hi
      have hlo := h2.lo
      split
      · rename_i hc
        rw [spMem_append, spMem_one, hmem]
        show _ ∨ (at_ ≤ p ∧ p < x.To) ↔ _
        constructor
        · rintro (⟨a1, a2, a3⟩ | ⟨a1, a2⟩)
          · exact ⟨rfl, ⟨a1, by omega⟩, a3⟩
          · exact ⟨rfl, ⟨by omega, a2⟩, hpre a2 (by omega)⟩
        · rintro ⟨_, ⟨a1, a2⟩, a3⟩
          by_cases hp : p < at_
          · exact .inl ⟨a1, hp, a3⟩
          · exact .inr ⟨by omega, a2⟩
      · rename_i hc
        rw [hmem]
        exact ⟨fun ⟨a1, a2, a3⟩ => ⟨rfl, ⟨a1, by omega⟩, a3⟩, fun ⟨_, ⟨a1, a2⟩, a3⟩ => ⟨a1, by omega, a3⟩⟩
theorem upto_runs {l : List api_Span} {a : Int} : ∀ (m k : Nat), k + m = l.length → l.length ≤ 100000000 → Form l → (∀ y ∈ l.take k, ¬ spIn a y) →
    ∃ r, Runs (uptoB l a) (m + 1) (k : Int) r ∧ ((r = a ∧ ¬ spMem a l) ∨ ∃ y ∈ l, spIn a y ∧ r = y.To)
  | 0, k, hk, _, _, h => ⟨a, .stop (by simp only [uptoB]; exact if_not (by simp; omega) rfl), .inl ⟨rfl, fun ⟨y, hy, hp⟩ => h y (by rw [List.take_of_length_le (by omega)]; exact hy) hp⟩⟩
  | m + 1, k, hk, hb, hf, h => by
    have hkl : k < l.length := by omega
    have e : ix l (k : Int) = l[k] := ix_nat hkl
    by_cases hc : spIn a l[k]
    · refine ⟨l[k].To, .stop ?_, .inr ⟨l[k], List.getElem_mem hkl, hc, rfl⟩⟩
      simp only [uptoB]
      refine if_of (decide_eq_true (by omega)) (need_of ⟨by omega, by omega⟩ ?_)
      rw [e]
      exact if_of (by simp only [Bool.and_eq_true, decide_eq_true_eq]; exact hc) rfl
    · obtain ⟨r, h1, h2⟩ := upto_runs m (k + 1) (by omega) hb hf (fun y hy => by
        rw [List.take_succ_eq_append_getElem hkl] at hy
        rcases List.mem_append.1 hy with hy | hy
        · exact h y hy
        · obtain rfl := List.mem_singleton.1 hy; exact hc)
      refine ⟨r, .step ?_ h1, h2⟩
      simp only [uptoB]
      refine if_of (decide_eq_true (by omega)) (need_of ⟨by omega, by omega⟩ ?_)
      rw [e, if_neg (by simp only [Bool.and_eq_true, decide_eq_true_eq]; exact hc), w64_id (by omega) (by omega)]
      rfl
theorem form_disj {l : List api_Span} (h : Form l) {x y : api_Span} (hx : x ∈ l) (hy : y ∈ l) {p : Int} (hp : spIn p x) (hq : y.From ≤ p ∧ p ≤ y.To) : x = y := by
  obtain ⟨i, hi, rfl⟩ := List.getElem_of_mem hx
  obtain ⟨j, hj, rfl⟩ := List.getElem_of_mem hy
  by_cases hij : i = j
  · subst hij; rfl
  · have := hp.1
    have := hp.2
    rcases Nat.lt_or_gt_of_ne hij with hlt | hlt
    · have := List.pairwise_iff_getElem.1 h.2 i j hi hj hlt; omega
    · have := List.pairwise_iff_getElem.1 h.2 j i hj hi hlt; omega
/-- The first number from a on that is not in. -/
theorem set_upto {l : List api_Span} {a : Int} (hl : Form l) (hr : l.length ≤ 100000000) : ∃ r, Set_Upto l a = some r ∧ a ≤ r ∧ (∀ p, a ≤ p → p < r → spMem p l) ∧ ¬ spMem r l := by
  obtain ⟨r, h1, h2⟩ := upto_runs (l := l) (a := a) l.length 0 (by omega) hr hl (fun y hy => by simp at hy)
  refine ⟨r, bnd_of (need_of (room_of hr) rfl) (h1.iter (by omega)), ?_⟩
  rcases h2 with ⟨rfl, h2⟩ | ⟨y, hy, hy2, rfl⟩
  · exact ⟨Int.le_refl _, fun p _ _ => by omega, h2⟩
  · refine ⟨by have := hy2.2; omega, fun p hp1 hp2 => ⟨y, hy, by have := hy2.1; exact ⟨by omega, hp2⟩⟩, fun ⟨z, hz, hz2⟩ => ?_⟩
    have := form_disj hl hz hy hz2 ⟨by have := hl.1 y hy; omega, Int.le_refl _⟩
    subst this
    have := hz2.2
    omega
end Go.AB
end

section
namespace Go.AB
open Go

theorem Form.append {l m : List api_Span} (hl : Form l) (hm : Form m) (h : ∀ a ∈ l, ∀ b ∈ m, a.To < b.From) : Form (l ++ m) :=
  ⟨fun x hx => (List.mem_append.1 hx).elim (hl.1 x) (hm.1 x), List.pairwise_append.2 ⟨hl.2, hm.2, h⟩⟩
theorem form_nil : Form ([] : List api_Span) := ⟨fun _ h => absurd h List.not_mem_nil, List.Pairwise.nil⟩
theorem known_runs {kn : List api_Span} (hf : Form kn) (hi : SpI kn) (hr : kn.length + 1 ≤ 100000000) : ∀ (m k : Nat) (acc : List api_Span), k + m = kn.length → Form acc → SpI acc → acc.length ≤ k → (∀ p, spMem p acc ↔ spMem p (kn.take k)) → Runs (knownB kn) (m + 1) (acc, (k : Int)) kn
  | 0, k, acc, hk, h1, h2, h3, h4 => .stop (by
    simp only [knownB]
    refine if_not (by simp; omega) ?_
    rw [h1.unique hf fun p => by rw [h4, List.take_of_length_le (by omega)]])
  | m + 1, k, acc, hk, h1, h2, h3, h4 => by
    have hkl : k < kn.length := by omega
    have e : ix kn (k : Int) = kn[k] := ix_nat hkl
    have hy := hf.1 _ (List.getElem_mem hkl)
    obtain ⟨l', p1, p2, p3, p4, p5⟩ := set_put (x := kn[k]) h1 h2 (hi _ (List.getElem_mem hkl)) (by omega)
    refine .step (t := (l', ((k + 1 : Nat) : Int))) ?_ (known_runs hf hi hr m (k + 1) l' (by omega) p2 p3 (by omega) fun p => ?_)
    · simp only [knownB]
      refine if_of (decide_eq_true (by omega)) (need_of ⟨by omega, by omega⟩ ?_)
      rw [e]
      refine bnd_of p1 ?_
      rw [w64_id (by omega) (by omega)]
      rfl
    · rw [p5, h4, take_mem hkl]
      exact ⟨fun h => h.imp id (·.2), fun h => h.imp id fun h => ⟨spV_iff.2 hy, h⟩⟩
theorem clip_eq {y : api_Span} {t : Int} (hy : 0 ≤ y.From ∧ y.From < y.To) : ∃ c, span_Clip y t = some c ∧ (spV c = true → c.From = y.From ∧ c.To ≤ y.To) ∧ ∀ p, (spV c = true ∧ spIn p c) ↔ (spIn p y ∧ p < t) := by
  unfold span_Clip
  cases hv : spV ⟨y.From, min y.To t⟩ with
  | false =>
    refine ⟨⟨0, 0⟩, bnd_of (empty_spV _) (by rw [hv]; rfl), fun h => Bool.noConfusion (h.symm.trans (show spV ⟨0, 0⟩ = false by decide)), fun p => ⟨fun h => Bool.noConfusion (h.1.symm.trans (show spV ⟨0, 0⟩ = false by decide)), fun ⟨h1, h2⟩ => ?_⟩⟩
    have : spV ⟨y.From, min y.To t⟩ = true := spV_iff.2 ⟨hy.1, by have := h1.1; have := h1.2; show y.From < min y.To t; omega⟩
    rw [hv] at this; cases this
  | true =>
    refine ⟨⟨y.From, min y.To t⟩, bnd_of (empty_spV _) (by rw [hv]; rfl), fun _ => ⟨rfl, Int.min_le_left _ _⟩, fun p => ?_⟩
    show (_ ∧ (y.From ≤ p ∧ p < min y.To t)) ↔ ((y.From ≤ p ∧ p < y.To) ∧ p < t)
    constructor
    · rintro ⟨_, h1, h2⟩; omega
    · rintro ⟨⟨h1, h2⟩, h3⟩; exact ⟨hv, h1, by omega⟩
theorem missing_runs {g : SrcG} {kn js : List api_Span} (hk : Form kn) (hj : Form js) (hr : kn.length + 2 ≤ 100000000) (hr2 : js.length * (kn.length + 1) ≤ 100000000) : ∀ (m k : Nat) (out : List api_Span), k + m = js.length → Form out → out.length ≤ k * (kn.length + 1) →
    (∀ a ∈ out, ∃ y ∈ js.take k, a.To ≤ y.To) → (∀ p, spMem p out ↔ spMem p (js.take k) ∧ p < g.total ∧ ¬ spMem p kn) →
    ∃ o, Runs (missingB g kn js) (m + 1) (out, (k : Int)) o ∧ Form o ∧ o.length ≤ js.length * (kn.length + 1) ∧ ∀ p, spMem p o ↔ spMem p js ∧ p < g.total ∧ ¬ spMem p kn
  | 0, k, out, hkk, h1, h2, h3, h4 => ⟨out, .stop (by
      simp only [missingB]
      exact if_not (by simp; omega) rfl), h1, by rw [show js.length = k by omega]; exact h2, fun p => by rw [h4, List.take_of_length_le (by omega)]⟩
  | m + 1, k, out, hkk, h1, h2, h3, h4 => by
    have hkl : k < js.length := by omega
    have e : ix js (k : Int) = js[k] := ix_nat hkl
    have hy := hj.1 _ (List.getElem_mem hkl)
    have hjl : js.length ≤ 100000000 := Nat.le_trans (Nat.le_mul_of_pos_right _ (by omega)) hr2
    obtain ⟨c, c1, c2, c3⟩ := clip_eq (t := g.total) hy
    obtain ⟨ms, m1, m2, m3, m4, m5⟩ := set_missing (x := c) hk hr
    have hb : (k + 1) * (kn.length + 1) ≤ js.length * (kn.length + 1) := Nat.mul_le_mul_right _ (by omega)
    have hm : (k + 1) * (kn.length + 1) = k * (kn.length + 1) + (kn.length + 1) := Nat.succ_mul _ _
    have hms : ∀ b ∈ ms, (js[k]).From ≤ b.From ∧ b.To ≤ (js[k]).To := fun b hb => by
      have hb2 := m2.1 b hb
      obtain ⟨q1, q2, _⟩ := (m5 b.From).1 ⟨b, hb, Int.le_refl _, hb2.2⟩
      obtain ⟨q3, q4⟩ := c2 q1
      have := m4 b hb
      have := q2.1
      omega
    have hlen : (out ++ ms).length ≤ (k + 1) * (kn.length + 1) := by rw [List.length_append]; omega
    obtain ⟨o, o1, o2⟩ := missing_runs (g := g) hk hj hr hr2 m (k + 1) (out ++ ms) (by omega) (h1.append m2 fun a ha b hb => by
      obtain ⟨y, y1, y2⟩ := h3 a ha
      have := form_lt hj hkl y1
      have := (hms b hb).1
      omega) hlen (fun a ha => by
        rw [List.take_succ_eq_append_getElem hkl]
        rcases List.mem_append.1 ha with ha | ha
        · obtain ⟨y, y1, y2⟩ := h3 a ha
          exact ⟨y, List.mem_append_left _ y1, y2⟩
        · exact ⟨_, List.mem_append_right _ (List.mem_singleton.2 rfl), (hms a ha).2⟩) (fun p => by
        rw [spMem_append, h4, m5, take_mem hkl]
        have := c3 p
        constructor
        · rintro (⟨a1, a2, a3⟩ | ⟨a1, a2, a3⟩)
          · exact ⟨.inl a1, a2, a3⟩
          · have := this.1 ⟨a1, a2⟩
            exact ⟨.inr this.1, this.2, a3⟩
        · rintro ⟨a1 | a1, a2, a3⟩
          · exact .inl ⟨a1, a2, a3⟩
          · have := this.2 ⟨a1, a2⟩
            exact .inr ⟨this.1, this.2, a3⟩)
    refine ⟨o, .step ?_ o1, o2⟩
    simp only [missingB]
    refine if_of (decide_eq_true (by omega)) (need_of ⟨by omega, by omega⟩ ?_)
    rw [e]
    refine bnd_of c1 (bnd_of m1 (need_of (room_of ?_) ?_))
    · rw [List.length_append] at hlen; omega
    · rw [w64_id (by omega) (by omega)]
      rfl
theorem ranges_missing {g : SrcG} {l : List api_Span} (hk : Form g.known) (hi : SpI g.known) (hl : SpI l) (hr : g.known.length + 2 ≤ 100000000) (hr2 : l.length * (g.known.length + 1) ≤ 100000000) :
    ∃ m, ranges_Missing g l = some m ∧ Form m ∧ m.length ≤ l.length * (g.known.length + 1) ∧ ∀ p, spMem p m ↔ inL p l ∧ p < g.total ∧ ¬ spMem p g.known := by
  have hll : l.length ≤ 100000000 := Nat.le_trans (by rw [Nat.mul_succ]; omega) hr2
  obtain ⟨f1, f2, f3⟩ := join0_form hl
  have hjl : (join0 l).length * (g.known.length + 1) ≤ l.length * (g.known.length + 1) := Nat.mul_le_mul_right _ (join0_len l)
  obtain ⟨o, o1, o2, o3, o4⟩ := missing_runs (g := g) hk (js := join0 l) f1 hr (by omega) (join0 l).length 0 [] (by omega) form_nil (by simp) (fun _ h => absurd h List.not_mem_nil) (fun p => ⟨fun ⟨_, h, _⟩ => absurd h List.not_mem_nil, fun h => by obtain ⟨⟨_, h, _⟩, _⟩ := h; simp at h⟩)
  have h1 := join0_len l
  refine ⟨o, ?_, o2, by omega, fun p => (o4 p).trans (and_congr (f3 p) Iff.rfl)⟩
  unfold ranges_Missing
  refine bnd_of (need_of (room_of (by omega)) rfl) (bnd_of ((known_runs hk hi (by omega) g.known.length 0 [] (by omega) form_nil (fun _ h => absurd h List.not_mem_nil) (by simp) (fun p => by simp)).iter (by omega)) (bnd_of (span_Join0 (room_of hll)) (o1.iter (by omega))))
theorem missing_ref {t : Int} {kn inn l : List api_Span} {m : List api_Span} (ht : 0 ≤ t ∧ t < 9223372036854775807) (hl : SpI l) (hb : l.length + inn.length ≤ 10000000) (hm : Form m) (hmm : ∀ p, spMem p m ↔ inL p l ∧ p < t ∧ ¬ spMem p kn) (hk : ∀ p, spMem p kn ↔ inL p inn) :
    ref35_Missing t inn l = some m := by
  unfold ref35_Missing
  obtain ⟨o, o1, o2, o3⟩ := joined_eq l (inn ++ [api_Span.mk t 9223372036854775807]) (room_of (by simp; omega))
  refine need_of (room_of (by simp; omega)) (need_of (room_of (by simp; omega)) (bnd_of o1 ?_))
  rw [o2.unique hm fun p => ?_]
  rw [o3, hmm]
  unfold Want
  rw [inL_append, inL_one, hk]
  constructor
  · rintro ⟨h1, h2⟩
    refine ⟨h1, ?_, fun h => h2 (.inl h)⟩
    by_cases hp : p < t
    · exact hp
    · obtain ⟨x, hx, hx2, hx3⟩ := h1
      refine absurd (Or.inr ⟨spV_iff.2 ⟨ht.1, ht.2⟩, ?_, ?_⟩) h2
      · show t ≤ p; omega
      · have := hl x hx
        have := hx3.2
        show p < 9223372036854775807
        omega
  · rintro ⟨h1, h2, h3⟩
    exact ⟨h1, fun h => h.elim h3 fun h => by have : t ≤ p := h.2.1; omega⟩
end Go.AB
end

section
set_option maxRecDepth 4000
namespace Go.AB
open Go
/-- catchword/catchwordlaw35.works -/
def ir_works35 : IC :=
 (.seq (.reg none [i1 0 (.mov false (.c (.bool false)))] [])
 (.seq (.reg none [i1 8 (.buildSl 1 3 [.int .u8 0, .int .u8 0, .int .u8 0] [(0, 1, (.c (.int .u8 97))), (1, 1, (.c (.int .u8 98))), (2, 1, (.c (.int .u8 99)))]),
 i1 9 (.cvtRow (.t 8)),
 i1 10 (.call 82 [(.t 9)]),
 mv 1 10] [1])
 (.seq (.reg none [i1 12 (.call 46 [(.c (.int .i64 9))]),
 i1 11 (.movT (.t 12)),
 i1 13 (.extract (.t 11) 0),
 i1 14 (.extract (.t 11) 1),
 mv 2 13,
 mv 3 14] [1, 2])
 (.seq (.reg none [mv 15 2,
 i1 16 (.build [.int .i64 0, .int .i64 0] [(0, 1, (.c (.int .i64 3))), (1, 1, (.c (.int .i64 20)))]),
 i1 17 (.buildSl 2 1 [.int .i64 0, .int .i64 0] [(0, 2, (.t 16))]),
 i1 18 (.call 48 [(.t 15), (.t 17)]),
 mt 4 18] [1, 4])
 (.seq (.reg none [i1 19 (.build [.int .i64 0, .int .i64 0, .int .i64 0, .int .i64 0, .int .i64 0, .int .i64 0, .int .i64 0] [(4, 1, (.c (.int .i64 2000))), (6, 1, (.c (.int .i64 3000))), (0, 1, (.c (.int .i64 3100)))]),
 i1 20 (.call 38 [(.t 19)]),
 mt 5 20] [1, 4, 5])
 (.seq (.reg none [i1 21 (.build [.int .i64 0, .int .i64 0, .sl true 1 0 []] [(0, 1, (.c (.int .i64 1))), (1, 1, (.c (.int .i64 200)))]),
 i1 22 (.buildSl 3 1 [.int .i64 0, .int .i64 0, .sl true 1 0 []] [(0, 3, (.t 21))]),
 i1 23 (.build [.int .i64 0, .int .i64 0, .sl true 3 0 [], .int .i64 0, .int .i64 0, .int .i64 0, .sl true 1 0 []] [(1, 1, (.c (.int .i64 500))), (2, 1, (.t 22))]),
 i1 6 (.allocL [.int .i64 0, .int .i64 0, .sl true 3 0 [], .int .i64 0, .int .i64 0, .int .i64 0, .sl true 1 0 []]),
 i0 (.store 7 (.t 6) (.t 23))] [1, 4, 5, 6])
 (.seq (.reg none [i1 24 (.load 7 true (.t 6)),
 i1 25 (.build [.int .i64 0, .int .i64 0, .int .i64 0, .int .i64 0, .int .i64 0, .int .i64 0, .int .i64 0] []),
 i1 26 (.call 42 [(.t 24), (.t 25), (.c (.int .i64 0))]),
 mt 7 26] [1, 4, 5, 7])
 (.seq (.reg (some 29) [i1 27 (.call 44 [(.c (.int .i64 130)), (.c (.int .i64 64)), (.c (.int .i64 150))]),
 i1 28 (.build [.int .i64 0, .int .i64 0] [(0, 1, (.c (.int .i64 128))), (1, 1, (.c (.int .i64 150)))]),
 i1 29 (.eqA 2 false (.t 27) (.t 28)),
 mv 30 29,
 mvg 31 1 30 true,
 i1g 32 30 true (.build [.int .i64 0, .int .i64 0] [(0, 1, (.c (.int .i64 0))), (1, 1, (.c (.int .i64 3)))]),
 i1g 33 30 true (.buildSl 2 1 [.int .i64 0, .int .i64 0] [(0, 2, (.t 32))]),
 i1g 34 30 true (.call 48 [(.t 31), (.t 33)]),
 i1g 35 30 true (.len 0 (.t 34)),
 i1g 36 30 true (.bin .eql (.t 35) (.c (.int .i64 0))),
 i1 37 (.pick (.t 30) (.t 36) (.c (.bool false))),
 mv 38 37,
 mvg 39 4 38 true,
 i1g 40 38 true (.build [.int .i64 0, .int .i64 0] [(0, 1, (.c (.int .i64 3))), (1, 1, (.c (.int .i64 9)))]),
 i1g 41 38 true (.buildSl 2 1 [.int .i64 0, .int .i64 0] [(0, 2, (.t 40))]),
 i1g 42 38 true (.call 37 [(.t 39), (.t 41)]),
 i1 43 (.pick (.t 38) (.t 42) (.c (.bool false))),
 mv 44 43,
 mvg 45 5 44 true,
 i1g 46 44 true (.build [.int .i64 0, .int .i64 0] [(0, 1, (.c (.int .i64 1024))), (1, 1, (.c (.int .i64 2000)))]),
 i1g 47 44 true (.build [.int .i64 0, .int .i64 0] [(0, 1, (.c (.int .i64 3000))), (1, 1, (.c (.int .i64 3100)))]),
 i1g 48 44 true (.buildSl 2 2 [.int .i64 0, .int .i64 0, .int .i64 0, .int .i64 0] [(0, 2, (.t 46)), (2, 2, (.t 47))]),
 i1g 49 44 true (.call 37 [(.t 45), (.t 48)]),
 i1 50 (.pick (.t 44) (.t 49) (.c (.bool false))),
 mv 51 50,
 mvg 52 7 51 true,
 i1g 53 51 true (.build [.int .i64 0, .int .i64 0] [(0, 1, (.c (.int .i64 500))), (1, 1, (.c (.int .i64 700)))]),
 i1g 54 51 true (.buildSl 2 1 [.int .i64 0, .int .i64 0] [(0, 2, (.t 53))]),
 i1g 55 51 true (.call 37 [(.t 52), (.t 54)]),
 i1 56 (.pick (.t 51) (.t 55) (.c (.bool false))),
 mv 0 56] [0])
 .ret))))))))
def res_works35 : List IRes := [⟨0, true, none⟩]
theorem is_works35 : fnIs Go.Proofs.Try.prog 40 57 res_works35 ir_works35 = true := by kernel_rfl


theorem SrcAt.sub {s0 s s' : Store} {B : Nat} {g : SrcG} (h : SrcAt s0 s B g) (k : Sub s s') : SrcAt s0 s' B g := by
  obtain ⟨h1, h2, M, es, h3, h4, h5, h6⟩ := h
  exact ⟨fun b o hb => k b o (h1 b o hb), h2, M, es, k _ _ h3, h4, k _ _ h5, fun p hp => by
    obtain ⟨n, b, cs, q1, q2, q3, q4⟩ := h6 p hp
    exact ⟨n, b, cs, q1, q2, k _ _ q3, q4⟩⟩
theorem same_fe {a : List api_Span} {s : Store} (h : a.length < 4611686018427387904) : FE Go.Proofs.Try.prog 37 [.sl false 2 a.length (flat a), .sl false 2 a.length (flat a)] s [.bool true] s := ref02_Same_fe (same_refl h)
theorem works35_fn {s : Store} {Q : List AV → Store → Prop} (hq : Q [.bool true] s) : FN Go.Proofs.Try.prog 40 [] s Q := by
  refine FN.weak (FN.of (draw_ok mix) is_works35 rfl (Nat.le_of_ble_eq_true rfl) ?_)
  rw [ir_works35, res_works35]
  simp -implicitDefEqProofs only [go_sem, start, startE, resVs, resV, resC, allV, retK, Nat.reduceBEq, Nat.reduceAdd, Nat.reduceMul, Nat.reduceLeDiff, Nat.reduceEqDiff, Nat.reduceBNe, Nat.ble_eq, UInt8.reduceToNat]
  refine source_Whole_fn (l := [97, 98, 99]) (by decide) ⟨_, wk_put, fun B s1 h1 => ?_⟩
  simp -implicitDefEqProofs only [go_sem, start, startE, resVs, resV, resC, allV, retK, Nat.reduceBEq, Nat.reduceAdd, Nat.reduceMul, Nat.reduceLeDiff, Nat.reduceEqDiff, Nat.reduceBNe, Nat.ble_eq, UInt8.reduceToNat]
  refine source_New_fn (by decide) fun B2 s2 h2 => ?_
  simp -implicitDefEqProofs only [go_sem, start, startE, resVs, resV, resC, allV, retK, Nat.reduceBEq, Nat.reduceAdd, Nat.reduceMul, Nat.reduceLeDiff, Nat.reduceEqDiff, Nat.reduceBNe, Nat.ble_eq, UInt8.reduceToNat]
  refine ranges_Missing_fn (l := [⟨3, 20⟩]) h2 ⟨_, wk_miss1, ?_⟩
  simp -implicitDefEqProofs only [go_sem, start, startE, resVs, resV, resC, allV, retK, Nat.reduceBEq, Nat.reduceAdd, Nat.reduceMul, Nat.reduceLeDiff, Nat.reduceEqDiff, Nat.reduceBNe, Nat.ble_eq, UInt8.reduceToNat]
  refine FE.app (ranges_Ahead_fe wk_ahead) ?_
  simp -implicitDefEqProofs only [go_sem, start, startE, resVs, resV, resC, allV, retK, Nat.reduceBEq, Nat.reduceAdd, Nat.reduceMul, Nat.reduceLeDiff, Nat.reduceEqDiff, Nat.reduceBNe, Nat.ble_eq, UInt8.reduceToNat]
  refine FE.app (ranges_Page_fe wk_page) ?_
  simp -implicitDefEqProofs only [go_sem, start, startE, resVs, resV, resC, allV, retK, Nat.reduceBEq, Nat.reduceAdd, Nat.reduceMul, Nat.reduceLeDiff, Nat.reduceEqDiff, Nat.reduceBNe, Nat.ble_eq, UInt8.reduceToNat]
  refine ⟨[.agg [.int .i64 128, .int .i64 150]], rfl, ranges_Chunk_fe wk_chunk, ?_⟩
  simp -implicitDefEqProofs only [go_sem, start, startE, resVs, resV, resC, allV, retK, Nat.reduceBEq, Nat.reduceAdd, Nat.reduceMul, Nat.reduceLeDiff, Nat.reduceEqDiff, Nat.reduceBNe, Nat.ble_eq, UInt8.reduceToNat]
  have h3 : SrcAt s s2 B ⟨3, [⟨0, 3⟩]⟩ := SrcAt.sub h1 h2.1
  rw [show ((128 : Int) == 128 && (150 : Int) == 150) = true from rfl]
  refine ⟨[slv []], rfl, fun _ => ⟨_, rfl, ranges_Missing_fn (l := [⟨0, 3⟩]) h3 ⟨_, wk_miss2, rfl, rfl⟩⟩, ?_⟩
  simp -implicitDefEqProofs only [go_sem, start, startE, resVs, resV, resC, allV, retK, Nat.reduceBEq, Nat.reduceAdd, Nat.reduceMul, Nat.reduceLeDiff, Nat.reduceEqDiff, Nat.reduceBNe, Nat.ble_eq, UInt8.reduceToNat]
  rw [show ((0 : Int) == 0) = true from rfl]
  refine ⟨[.bool true], rfl, fun _ => ⟨_, rfl, same_fe (a := [⟨3, 9⟩]) (by decide)⟩, ?_⟩
  simp -implicitDefEqProofs only [go_sem, start, startE, resVs, resV, resC, allV, retK, Nat.reduceBEq, Nat.reduceAdd, Nat.reduceMul, Nat.reduceLeDiff, Nat.reduceEqDiff, Nat.reduceBNe, Nat.ble_eq, UInt8.reduceToNat]
  refine ⟨[.bool true], rfl, fun _ => ⟨_, rfl, same_fe (a := [⟨1024, 2000⟩, ⟨3000, 3100⟩]) (by decide)⟩, ?_⟩
  simp -implicitDefEqProofs only [go_sem, start, startE, resVs, resV, resC, allV, retK, Nat.reduceBEq, Nat.reduceAdd, Nat.reduceMul, Nat.reduceLeDiff, Nat.reduceEqDiff, Nat.reduceBNe, Nat.ble_eq, UInt8.reduceToNat]
  refine ⟨[.bool true], rfl, fun _ => ⟨_, rfl, same_fe (a := [⟨500, 700⟩]) (by decide)⟩, ?_⟩
  simp -implicitDefEqProofs only [go_sem, start, startE, resVs, resV, resC, allV, retK, Nat.reduceBEq, Nat.reduceAdd, Nat.reduceMul, Nat.reduceLeDiff, Nat.reduceEqDiff, Nat.reduceBNe, Nat.ble_eq, UInt8.reduceToNat]
  exact ⟨s, h3.1, hq⟩
def law35_works : Option Bool := some true
theorem law35_works_fe {s : Store} {r : Bool} (h : law35_works = some r) : FE Go.Proofs.Try.prog 40 [] s [.bool r] s := by
  injection h with h; subst h
  exact works35_fn ⟨rfl, rfl⟩

end Go.AB
end

section
set_option maxRecDepth 4000
namespace Go.AB
open Go
/-- catchword/catchwordlaw35.RangesMissing -/
def ir_law35_RangesMissing : IC :=
 (.seq (.reg none [i1 6 (.mov false (.c (.bool false)))] [0, 1, 2])
 (.seq (.seq (.reg none [mv 14 0,
 i1 15 (.len 0 (.t 14)),
 i1 16 (.bin .gtr (.t 15) (.c (.int .i64 300))),
 mv 17 16,
 mvg 18 1 17 false,
 i1g 19 17 false (.len 0 (.t 18)),
 i1g 20 17 false (.bin .gtr (.t 19) (.c (.int .i64 30))),
 i1 21 (.pick (.t 17) (.c (.bool true)) (.t 20)),
 mv 22 21,
 mvg 23 2 22 false,
 i1g 24 22 false (.len 0 (.t 23)),
 i1g 25 22 false (.bin .gtr (.t 24) (.c (.int .i64 30))),
 i1 26 (.pick (.t 22) (.c (.bool true)) (.t 25))] [0, 1, 2, 26])
 (.cond (.t 26) (.seq (.reg none [i1 27 (.call 40 []),
 mv 6 27] [6])
 .ret)
 .skip))
 (.seq (.reg none [mv 29 0,
 i1 30 (.len 0 (.t 29)),
 i1 31 (.call 46 [(.t 30)]),
 i1 28 (.movT (.t 31)),
 i1 32 (.extract (.t 28) 0),
 i1 33 (.extract (.t 28) 1),
 mv 7 32,
 mv 8 33] [0, 1, 2, 7])
 (.seq (.reg none [i1 9 (.mov true (.c (.sl true 2 0 [])))] [0, 1, 2, 7, 9])
 (.seq (.seq (.reg none [i1 10 (.mov false (.c (.int .i64 0)))] [0, 1, 2, 7, 9, 10])
 (.block 0 (.loop [(0, false), (1, false), (2, false), (7, false), (9, false), (10, false)] (.seq (.seq (.reg none [mv 34 10,
 mv 35 1,
 i1 36 (.len 0 (.t 35)),
 i1 37 (.bin .lss (.t 34) (.t 36))] [0, 1, 2, 7, 9, 10, 37])
 (.cond (.t 37) .skip
 (.exit 0)))
 (.seq (.block 1 (.seq (.reg none [mv 40 1,
 mv 41 10,
 i1 42 (.indexAddr [.int .i64 0, .int .i64 0] (.t 40) (.t 41)),
 i1 43 (.load 2 true (.t 42)),
 i1 11 (.allocL [.int .i64 0, .int .i64 0]),
 i0 (.store 2 (.t 11) (.t 43))] [0, 1, 2, 7, 9, 10, 11])
 (.seq (.reg none [i1 44 (.fieldAddr 0 (.t 11)),
 i1 45 (.load 1 false (.t 44)),
 i1 46 (.bin .geq (.t 45) (.c (.int .i64 0))),
 mv 47 46,
 i1g 48 47 true (.fieldAddr 0 (.t 11)),
 i1g 49 47 true (.load 1 false (.t 48)),
 i1g 50 47 true (.fieldAddr 1 (.t 11)),
 i1g 51 47 true (.load 1 false (.t 50)),
 i1g 52 47 true (.bin .leq (.t 49) (.t 51)),
 i1 53 (.pick (.t 47) (.t 52) (.c (.bool false))),
 mv 54 53,
 i1g 55 54 true (.fieldAddr 1 (.t 11)),
 i1g 56 54 true (.load 1 false (.t 55)),
 mvg 57 0 54 true,
 i1g 58 54 true (.len 0 (.t 57)),
 i1g 59 54 true (.bin .leq (.t 56) (.t 58)),
 i1 60 (.pick (.t 54) (.t 59) (.c (.bool false)))] [0, 1, 2, 7, 9, 10, 11, 60])
 (.cond (.t 60) (.seq (.reg (some 9) [mv 61 7,
 i1 62 (.fieldAddr 0 (.t 11)),
 i1 63 (.load 1 false (.t 62)),
 mv 64 0,
 i1 65 (.fieldAddr 0 (.t 11)),
 i1 66 (.load 1 false (.t 65)),
 i1 67 (.fieldAddr 1 (.t 11)),
 i1 68 (.load 1 false (.t 67)),
 i1 69 (.slice 1 (.t 64) (some (.t 66)) (some (.t 68)) none),
 i1 70 (.call 47 [(.t 61), (.t 63), (.t 69)])] [0, 1, 2, 7, 9, 10, 11])
 (.reg none [mt 71 9,
 i1 72 (.load 2 true (.t 11)),
 i1 73 (.buildSl 2 1 [.int .i64 0, .int .i64 0] [(0, 2, (.t 72))]),
 i1 74 (.append 2 16 (.t 71) (.t 73)),
 mt 9 74] [0, 1, 2, 7, 9, 10]))
 .skip))))
 (.reg none [mv 38 10,
 i1 39 (.bin .add (.t 38) (.c (.int .i64 1))),
 mv 10 39] [0, 1, 2, 7, 9, 10]))))))
 (.seq (.reg none [mv 75 7,
 mv 76 2,
 i1 77 (.call 48 [(.t 75), (.t 76)]),
 mt 12 77] [0, 2, 7, 9, 12])
 (.seq (.seq (.reg none [mv 78 12,
 mv 79 0,
 i1 80 (.len 0 (.t 79)),
 mt 81 9,
 mv 82 2,
 i1 83 (.call 49 [(.t 80), (.t 81), (.t 82)]),
 i1 84 (.call 37 [(.t 78), (.t 83)]),
 i1 85 (.un .not (.t 84))] [0, 2, 7, 12, 85])
 (.cond (.t 85) (.seq (.reg none [i1 6 (.mov false (.c (.bool false)))] [6])
 .ret)
 .skip))
 (.seq (.seq (.reg none [i1 13 (.mov false (.c (.int .i64 0)))] [0, 2, 7, 12, 13])
 (.block 2 (.loop [(0, false), (2, false), (7, false), (12, false), (13, false)] (.seq (.seq (.reg none [mv 86 13,
 mv 87 12,
 i1 88 (.len 0 (.t 87)),
 i1 89 (.bin .lss (.t 86) (.t 88))] [0, 2, 7, 12, 13, 89])
 (.cond (.t 89) .skip
 (.exit 2)))
 (.seq (.block 3 (.seq (.reg (some 32) [mv 92 7,
 mv 93 12,
 mv 94 13,
 i1 95 (.indexAddr [.int .i64 0, .int .i64 0] (.t 93) (.t 94)),
 i1 96 (.fieldAddr 0 (.t 95)),
 i1 97 (.load 1 false (.t 96)),
 i1 98 (.call 50 [(.t 92), (.t 97)]),
 mv 99 12,
 mv 100 13,
 i1 101 (.indexAddr [.int .i64 0, .int .i64 0] (.t 99) (.t 100)),
 i1 102 (.fieldAddr 0 (.t 101)),
 i1 103 (.load 1 false (.t 102)),
 i1 104 (.bin .neq (.t 98) (.t 103)),
 mv 105 104,
 mvg 106 7 105 false,
 mvg 107 12 105 false,
 mvg 108 13 105 false,
 i1g 109 105 false (.indexAddr [.int .i64 0, .int .i64 0] (.t 107) (.t 108)),
 i1g 110 105 false (.fieldAddr 0 (.t 109)),
 i1g 111 105 false (.load 1 false (.t 110)),
 mvg 112 0 105 false,
 mvg 113 12 105 false,
 mvg 114 13 105 false,
 i1g 115 105 false (.indexAddr [.int .i64 0, .int .i64 0] (.t 113) (.t 114)),
 i1g 116 105 false (.fieldAddr 0 (.t 115)),
 i1g 117 105 false (.load 1 false (.t 116)),
 mvg 118 12 105 false,
 mvg 119 13 105 false,
 i1g 120 105 false (.indexAddr [.int .i64 0, .int .i64 0] (.t 118) (.t 119)),
 i1g 121 105 false (.fieldAddr 1 (.t 120)),
 i1g 122 105 false (.load 1 false (.t 121)),
 i1g 123 105 false (.slice 1 (.t 112) (some (.t 117)) (some (.t 122)) none),
 i1g 124 105 false (.call 47 [(.t 106), (.t 111), (.t 123)]),
 i1g 125 105 false (.bin .neq (.t 124) (.c (.int .i64 0))),
 i1 126 (.pick (.t 105) (.c (.bool true)) (.t 125))] [0, 2, 7, 12, 13, 126])
 (.cond (.t 126) (.seq (.reg none [i1 6 (.mov false (.c (.bool false)))] [6])
 .ret)
 .skip)))
 (.reg none [mv 90 13,
 i1 91 (.bin .add (.t 90) (.c (.int .i64 1))),
 mv 13 91] [0, 2, 7, 12, 13]))))))
 (.seq (.reg (some 7) [mv 127 7,
 mv 128 2,
 i1 129 (.call 48 [(.t 127), (.t 128)]),
 i1 130 (.len 0 (.t 129)),
 i1 131 (.bin .eql (.t 130) (.c (.int .i64 0))),
 mv 132 131,
 i1g 133 132 true (.call 40 []),
 i1 134 (.pick (.t 132) (.t 133) (.c (.bool false))),
 mv 6 134] [6])
 .ret)))))))))
def res_law35_RangesMissing : List IRes := [⟨6, true, none⟩]
theorem is_law35_RangesMissing : fnIs Go.Proofs.Try.prog 10 135 res_law35_RangesMissing ir_law35_RangesMissing = true := by kernel_rfl


def putsB (b : List UInt8) (put : List api_Span) : SrcG × List api_Span × Int → Option ((SrcG × List api_Span × Int) ⊕ (SrcG × List api_Span)) := fun (g, inn, k) =>
  if decide (k < (put.length : Int)) then
    need (0 ≤ k ∧ k < put.length) <|
    if (decide ((ix put k).From ≥ 0) && decide ((ix put k).From ≤ (ix put k).To)) && decide ((ix put k).To ≤ (b.length : Int)) then
      need (0 ≤ (ix put k).From ∧ (ix put k).From ≤ (ix put k).To ∧ (ix put k).To ≤ b.length) <|
      bnd (Source_Put g (ix put k).From (part b (ix put k).From (ix put k).To)) fun r =>
      need ((inn.length + 1) * 16 ≤ room) <|
      some (.inl (r.1, inn ++ [ix put k], w64 (k + 1)))
    else some (.inl (g, inn, w64 (k + 1)))
  else some (.inr (g, inn))
def backB (b : List UInt8) (m : List api_Span) : SrcG × Int → Option ((SrcG × Int) ⊕ (SrcG ⊕ Unit)) := fun (g, k) =>
  if decide (k < (m.length : Int)) then
    need (0 ≤ k ∧ k < m.length) <|
    bnd (Set_Upto g.known (max 0 (ix m k).From)) fun r =>
    if min g.total r != (ix m k).From then some (.inr (.inr ())) else
    need (0 ≤ (ix m k).From ∧ (ix m k).From ≤ (ix m k).To ∧ (ix m k).To ≤ b.length) <|
    bnd (Source_Put g (ix m k).From (part b (ix m k).From (ix m k).To)) fun r =>
    if r.2 != 0 then some (.inr (.inr ())) else some (.inl (r.1, w64 (k + 1)))
  else some (.inr (.inl g))
theorem Source_Put_tot {g : SrcG} {a : Int} {l : List UInt8} {K : SrcG × Int → Prop} : ok (Source_Put g a l) K → ok (Source_Put g a l) (fun r => r.1.total = g.total ∧ K r) := by
  rintro ⟨r, h1, h2⟩
  refine ⟨r, h1, ?_, h2⟩
  unfold Source_Put at h1
  split at h1
  · injection h1 with h1; rw [← h1]
  split at h1
  · injection h1 with h1; rw [← h1]
  unfold bnd at h1
  split at h1
  · simp only [] at h1
    split at h1
    · split at h1
      · injection h1 with h1; rw [← h1]
      · cases h1
    · cases h1
  · cases h1
def law35_RangesMissing (b : List UInt8) (put l : List api_Span) : Option Bool :=
  if (decide ((b.length : Int) > 300) || decide ((put.length : Int) > 30)) || decide ((l.length : Int) > 30) then some true else
  bnd (iter (putsB b put) (⟨b.length, []⟩, [], 0)) fun (g, inn) =>
  bnd (ranges_Missing g l) fun m =>
  bnd (ref35_Missing b.length inn l) fun m2 =>
  bnd (ref02_Same m m2) fun sm =>
  if !sm then some false else
  bnd (iter (backB b m) (g, 0)) fun x =>
  match x with
  | .inr _ => some false
  | .inl g => bnd (ranges_Missing g l) fun m3 => some (decide ((m3.length : Int) = 0))
theorem law35_RangesMissing_fn {b : List UInt8} {put l : List api_Span} {s : Store} {Q : List AV → Store → Prop} (hput : SpI put) : ok (law35_RangesMissing b put l) (fun r => Q [.bool r] s) → FN Go.Proofs.Try.prog 10 [.sl false 1 b.length (flat b), .sl false 2 put.length (flat put), .sl false 2 l.length (flat l)] s Q := by
  intro hh
  refine FN.weak (FN.of (draw_ok mix) is_law35_RangesMissing rfl (Nat.le_of_ble_eq_true rfl) ?_)
  rw [ir_law35_RangesMissing, res_law35_RangesMissing]
  revert hh
  rw [law35_RangesMissing]
  simp -implicitDefEqProofs only [go_sem, start, startE, resVs, resV, resC, allV, retK, Nat.reduceBEq, Nat.reduceAdd, Nat.reduceMul, Nat.reduceLeDiff, Nat.reduceEqDiff, Nat.reduceBNe, Nat.ble_eq, UInt8.reduceToNat]
  rintro ⟨w1, w2⟩
  refine ⟨fun hc => works35_fn ?_, fun hc => ?_⟩
  · simp -implicitDefEqProofs only [go_sem, start, startE, resVs, resV, resC, allV, retK, Nat.reduceBEq, Nat.reduceAdd, Nat.reduceMul, Nat.reduceLeDiff, Nat.reduceEqDiff, Nat.reduceBNe, Nat.ble_eq, UInt8.reduceToNat]
    exact ⟨s, Sub.refl s, w1 hc⟩
  have hb : b.length ≤ 300 := by simp at hc; omega
  have hh := w2 hc
  clear w1 w2
  refine source_New_fn (by omega) fun B s1 h1 => ?_
  simp -implicitDefEqProofs only [go_sem, start, startE, resVs, resV, resC, allV, retK, Nat.reduceBEq, Nat.reduceAdd, Nat.reduceMul, Nat.reduceLeDiff, Nat.reduceEqDiff, Nat.reduceBNe, Nat.ble_eq, UInt8.reduceToNat]
  revert hh
  refine iter_toR (fun st τ => ∃ s', τ = ⟨[(0, .sl false 1 b.length (flat b)), (1, .sl false 2 put.length (flat put)), (2, .sl false 2 l.length (flat l)), (7, .ref B 0), (9, slv st.2.1), (10, .int .i64 st.2.2)], [], s'⟩ ∧ SrcAt s s' B st.1 ∧ st.1.total = b.length) ⟨s1, rfl, h1, rfl⟩ ?_
  rintro J ⟨g, inn, k⟩ τ ⟨s', rfl, hs, htot⟩
  have htot : g.total = b.length := htot
  have hs : SrcAt s s' B g := hs
  rw [putsB]
  simp -implicitDefEqProofs only [go_sem, start, startE, resVs, resV, resC, allV, retK, Nat.reduceBEq, Nat.reduceAdd, Nat.reduceMul, Nat.reduceLeDiff, Nat.reduceEqDiff, Nat.reduceBNe, Nat.ble_eq, UInt8.reduceToNat]
  rintro ⟨w1, w2⟩
  refine ⟨fun hk => ⟨(w1 hk).1, ?_⟩, fun hk => ?_⟩
  · have w1 := (w1 hk).2
    refine ⟨fun hd => ?_, fun hd => (w1.2 hd) _ ⟨s', rfl, hs, htot⟩⟩
    obtain ⟨hn, w1⟩ := w1.1 hd
    refine ⟨hn, Source_Put_fn hs (by omega) (ok_mono (Source_Put_tot w1) fun r ⟨ht, hr, hJ⟩ s3 h3 => ?_)⟩
    simp -implicitDefEqProofs only [go_sem, start, startE, resVs, resV, resC, allV, retK, Nat.reduceBEq, Nat.reduceAdd, Nat.reduceMul, Nat.reduceLeDiff, Nat.reduceEqDiff, Nat.reduceBNe, Nat.ble_eq, UInt8.reduceToNat]
    refine ⟨hr, ?_⟩
    have e : slv (inn ++ [ix put k]) = .sl true 2 (inn.length + 1) (flat inn ++ [.int .i64 (ix put k).From, .int .i64 (ix put k).To]) := by unfold slv; rw [flat_append, List.length_append]; rfl
    rw [← e]
    exact hJ _ ⟨s3, rfl, h3, ht.trans htot⟩
  · have hh := w2 hk
    clear w1 w2
    refine ranges_Missing_fn hs (ok_mono hh fun m hh => ?_)
    simp -implicitDefEqProofs only [go_sem, start, startE, resVs, resV, resC, allV, retK, Nat.reduceBEq, Nat.reduceAdd, Nat.reduceMul, Nat.reduceLeDiff, Nat.reduceEqDiff, Nat.reduceBNe, Nat.ble_eq, UInt8.reduceToNat]
    refine call_to (fun _ h => ref35_Missing_fe h) (fun m2 => ?_) hh
    simp -implicitDefEqProofs only [go_sem, start, startE, resVs, resV, resC, allV, retK, Nat.reduceBEq, Nat.reduceAdd, Nat.reduceMul, Nat.reduceLeDiff, Nat.reduceEqDiff, Nat.reduceBNe, Nat.ble_eq, UInt8.reduceToNat]
    refine call_to (fun _ h => ref02_Same_fe h) (fun sm => ?_)
    simp -implicitDefEqProofs only [go_sem, start, startE, resVs, resV, resC, allV, retK, Nat.reduceBEq, Nat.reduceAdd, Nat.reduceMul, Nat.reduceLeDiff, Nat.reduceEqDiff, Nat.reduceBNe, Nat.ble_eq, UInt8.reduceToNat]
    rintro ⟨v1, v2⟩
    refine ⟨fun h => ⟨s, hs.1, v1 h⟩, fun h => ?_⟩
    refine iter_toR (fun (st : SrcG × Int) τ => ∃ s', τ = ⟨[(0, .sl false 1 b.length (flat b)), (2, .sl false 2 l.length (flat l)), (7, .ref B 0), (12, slv m), (13, .int .i64 st.2)], [], s'⟩ ∧ SrcAt s s' B st.1 ∧ st.1.total = b.length) ⟨s', rfl, hs, htot⟩ ?_ (v2 h)
    clear v1 v2 h hh m2 sm
    rintro J ⟨g2, k2⟩ τ ⟨s3, rfl, hs3, ht3⟩
    have ht3 : g2.total = b.length := ht3
    have hs3 : SrcAt s s3 B g2 := hs3
    rw [backB]
    simp -implicitDefEqProofs only [go_sem, start, startE, resVs, resV, resC, allV, retK, Nat.reduceBEq, Nat.reduceAdd, Nat.reduceMul, Nat.reduceLeDiff, Nat.reduceEqDiff, Nat.reduceBNe, Nat.ble_eq, UInt8.reduceToNat]
    rintro ⟨w1, w2⟩
    refine ⟨fun hk2 => ⟨(w1 hk2).1, ?_⟩, fun hk2 => ?_⟩
    · have w0 := (w1 hk2).1
      obtain ⟨r, hr, w1⟩ := (w1 hk2).2
      refine ⟨[.int .i64 (min g2.total r)], rfl, Source_First_fn hs3 ⟨r, hr, rfl, rfl⟩, ?_⟩
      simp -implicitDefEqProofs only [go_sem, start, startE, resVs, resV, resC, allV, retK, Nat.reduceBEq, Nat.reduceAdd, Nat.reduceMul, Nat.reduceLeDiff, Nat.reduceEqDiff, Nat.reduceBNe, Nat.ble_eq, UInt8.reduceToNat]
      refine ⟨w0, fun _ => w0, fun _ => w0, fun _ => w0, fun h => (w1.2 (by simpa using h)).1, fun h => ?_, fun h => ?_⟩
      · obtain ⟨hn, w3⟩ := w1.2 (by simpa using h)
        clear w1
        have hf : (min g2.total r != (ix m k2).From) = false := by simpa using h
        generalize (!min g2.total r != (ix m k2).From) = gg at h ⊢
        subst h
        simp -implicitDefEqProofs only [go_sem, start, startE, resVs, resV, resC, allV, retK, Nat.reduceBEq, Nat.reduceAdd, Nat.reduceMul, Nat.reduceLeDiff, Nat.reduceEqDiff, Nat.reduceBNe, Nat.ble_eq, UInt8.reduceToNat]
        refine Source_Put_fn hs3 (by omega) (ok_mono (Source_Put_tot w3) fun r2 ⟨ht, u1, u2⟩ s4 h4 => ?_)
        simp -implicitDefEqProofs only [go_sem, start, startE, resVs, resV, resC, allV, retK, Nat.reduceBEq, Nat.reduceAdd, Nat.reduceMul, Nat.reduceLeDiff, Nat.reduceEqDiff, Nat.reduceBNe, Nat.ble_eq, UInt8.reduceToNat, hf]
        exact ⟨fun hx => ⟨s, h4.1, u1 hx⟩, fun hx => u2 hx _ ⟨s4, rfl, h4, ht.trans ht3⟩⟩
      · have w1 := w1.1 (by simpa using h)
        generalize (min g2.total r != (ix m k2).From) = gg at h ⊢
        have h : gg = true := by simpa using h
        subst h
        simp -implicitDefEqProofs only [go_sem, start, startE, resVs, resV, resC, allV, retK, Nat.reduceBEq, Nat.reduceAdd, Nat.reduceMul, Nat.reduceLeDiff, Nat.reduceEqDiff, Nat.reduceBNe, Nat.ble_eq, UInt8.reduceToNat]
        rw [show binV .neq (.tup []) (.int .i64 0) = .no from rfl]
        refine ⟨fun h => (by cases h), fun _ => ?_⟩
        simp -implicitDefEqProofs only [go_sem, start, startE, resVs, resV, resC, allV, retK, Nat.reduceBEq, Nat.reduceAdd, Nat.reduceMul, Nat.reduceLeDiff, Nat.reduceEqDiff, Nat.reduceBNe, Nat.ble_eq, UInt8.reduceToNat]
        exact ⟨fun h => (by cases h), fun _ => ⟨s, hs3.1, w1⟩, fun h => (by cases h)⟩
    · obtain ⟨m3, hm3, hh⟩ := w2 hk2
      refine ⟨[slv m3], rfl, ranges_Missing_fn hs3 ⟨m3, hm3, rfl, rfl⟩, ?_⟩
      simp -implicitDefEqProofs only [go_sem, start, startE, resVs, resV, resC, allV, retK, Nat.reduceBEq, Nat.reduceAdd, Nat.reduceMul, Nat.reduceLeDiff, Nat.reduceEqDiff, Nat.reduceBNe, Nat.ble_eq, UInt8.reduceToNat]
      refine ⟨[.bool true], rfl, fun _ => ⟨_, rfl, works35_fn ⟨rfl, rfl⟩⟩, ?_⟩
      simp -implicitDefEqProofs only [go_sem, start, startE, resVs, resV, resC, allV, retK, Nat.reduceBEq, Nat.reduceAdd, Nat.reduceMul, Nat.reduceLeDiff, Nat.reduceEqDiff, Nat.reduceBNe, Nat.ble_eq, UInt8.reduceToNat]
      exact ⟨s, hs3.1, hh⟩
theorem law35_RangesMissing_fe {b : List UInt8} {put l : List api_Span} {s : Store} {r : Bool} (hput : SpI put) (h : law35_RangesMissing b put l = some r) : FE Go.Proofs.Try.prog 10 [.sl false 1 b.length (flat b), .sl false 2 put.length (flat put), .sl false 2 l.length (flat l)] s [.bool r] s := law35_RangesMissing_fn hput ⟨r, h, rfl, rfl⟩

end Go.AB
end

section
namespace Go.AB
open Go

theorem part_len {b : List UInt8} {x y : Int} (h : 0 ≤ x ∧ x ≤ y ∧ y ≤ b.length) : ((part b x y).length : Int) = y - x := by
  unfold part
  rw [List.length_take, List.length_drop]
  omega
theorem putB_runs {a : Int} {l : List UInt8} {ms : List api_Span} (hm : ms.length ≤ 100000000) (h : ∀ x ∈ ms, a ≤ x.From ∧ x.From ≤ x.To ∧ x.To ≤ a + l.length) : ∀ (m k : Nat), k + m = ms.length → Runs (putB a l ms) (m + 1) (k : Int) ()
  | 0, k, hk => .stop (by simp only [putB]; exact if_not (by simp; omega) rfl)
  | m + 1, k, hk => by
    have hkl : k < ms.length := by omega
    have e : ix ms (k : Int) = ms[k] := ix_nat hkl
    refine .step (t := ((k + 1 : Nat) : Int)) ?_ (putB_runs hm h m (k + 1) (by omega))
    simp only [putB]
    refine if_of (decide_eq_true (by omega)) (need_of ⟨by omega, by omega, ?_⟩ ?_)
    · rw [e]; exact h _ (List.getElem_mem hkl)
    · rw [w64_id (by omega) (by omega)]; rfl
theorem src_put {g : SrcG} {a : Int} {l : List UInt8} (ht : g.total ≤ 2147483647) (h0 : 0 ≤ a) (h1 : a + l.length ≤ g.total) (hf : Form g.known) (hi : SpI g.known) (hr : g.known.length + 2 ≤ 100000000) :
    ∃ kn, Source_Put g a l = some (⟨g.total, kn⟩, 0) ∧ Form kn ∧ SpI kn ∧ kn.length ≤ g.known.length + 1 ∧ ∀ p, spMem p kn ↔ spMem p g.known ∨ (a ≤ p ∧ p < a + l.length) := by
  unfold Source_Put
  have hw : w64 (a + l.length) = a + l.length := w64_id (by omega) (by omega)
  obtain ⟨ms, m1, m2, m3, m4, m5⟩ := set_missing (x := ⟨a, a + l.length⟩) hf hr
  obtain ⟨kn, k1, k2, k3, k4, k5⟩ := set_put (x := ⟨a, a + l.length⟩) hf hi (show a + l.length ≤ 9223372036854775807 by omega) (by omega)
  refine ⟨kn, if_not (by simp; omega) (if_not (by rw [w64_id (by omega) (by omega)]; simp; omega) ?_), k2, k3, k4, fun p => ?_⟩
  · rw [hw]
    refine bnd_of m1 (bnd_of ((putB_runs (by omega) (fun x hx => ?_) ms.length 0 (by omega)).iter (by omega)) (bnd_of k1 rfl))
    have hx2 := m2.1 x hx
    have := ((m5 x.From).1 ⟨x, hx, Int.le_refl _, hx2.2⟩).2.1.1
    have := m4 x hx
    exact ⟨by assumption, by omega, by assumption⟩
  · rw [k5]
    show _ ∨ (_ ∧ (a ≤ p ∧ p < a + l.length)) ↔ _
    constructor
    · rintro (h | ⟨_, h⟩)
      · exact .inl h
      · exact .inr h
    · rintro (h | h)
      · exact .inl h
      · exact .inr ⟨spV_iff.2 ⟨h0, by show a < a + l.length; omega⟩, h⟩
structure GK (b : List UInt8) (k : Nat) (g : SrcG) : Prop where
  tot : g.total = b.length
  form : Form g.known
  spi : SpI g.known
  len : g.known.length ≤ k
theorem puts_runs {b : List UInt8} {put : List api_Span} (hb : b.length ≤ 300) (hp : put.length ≤ 30) : ∀ (m k : Nat) (g : SrcG) (inn : List api_Span), k + m = put.length → GK b k g → inn.length ≤ k → (∀ p, spMem p g.known ↔ inL p inn) →
    ∃ g' inn', Runs (putsB b put) (m + 1) (g, inn, (k : Int)) (g', inn') ∧ GK b put.length g' ∧ inn'.length ≤ put.length ∧ ∀ p, spMem p g'.known ↔ inL p inn'
  | 0, k, g, inn, hk, h1, h2, h3 => ⟨g, inn, .stop (by simp only [putsB]; exact if_not (by simp; omega) rfl), by rw [show put.length = k by omega]; exact h1, by omega, h3⟩
  | m + 1, k, g, inn, hk, h1, h2, h3 => by
    have hkl : k < put.length := by omega
    obtain ⟨ht, hf, hi, hl⟩ := h1
    by_cases hc : 0 ≤ (ix put (k : Int)).From ∧ (ix put (k : Int)).From ≤ (ix put (k : Int)).To ∧ (ix put (k : Int)).To ≤ b.length
    · have hpl := part_len (b := b) hc
      obtain ⟨kn, k1, k2, k3, k4, k5⟩ := src_put (g := g) (l := part b (ix put (k : Int)).From (ix put (k : Int)).To) (by omega) hc.1 (by rw [hpl]; omega) hf hi (by omega)
      obtain ⟨g', inn', r1, r2⟩ := puts_runs hb hp m (k + 1) ⟨g.total, kn⟩ (inn ++ [ix put (k : Int)]) (by omega) ⟨ht, k2, k3, by show kn.length ≤ k + 1; omega⟩ (by simp; omega) (fun p => by
        rw [k5, inL_append, inL_one, h3, hpl]
        refine or_congr Iff.rfl ⟨fun h => ⟨spV_iff.2 ⟨hc.1, by omega⟩, h.1, by omega⟩, fun h => ⟨h.2.1, by have := h.2.2; omega⟩⟩)
      refine ⟨g', inn', .step ?_ r1, r2⟩
      simp only [putsB]
      refine if_of (decide_eq_true (by omega)) (need_of ⟨by omega, by omega⟩ (if_of (by simp; omega) (need_of hc (bnd_of k1 (need_of (room_of (by omega)) ?_)))))
      rw [w64_id (by omega) (by omega)]; rfl
    · obtain ⟨g', inn', r1, r2⟩ := puts_runs hb hp m (k + 1) g inn (by omega) ⟨ht, hf, hi, by omega⟩ (by omega) h3
      refine ⟨g', inn', .step ?_ r1, r2⟩
      simp only [putsB]
      refine if_of (decide_eq_true (by omega)) (need_of ⟨by omega, by omega⟩ (if_not (by simp; omega) ?_))
      rw [w64_id (by omega) (by omega)]; rfl
theorem back_runs {b : List UInt8} {m kn0 : List api_Span} (hb : b.length ≤ 300) (hm : Form m) (hml : m.length ≤ 1000) (hmm : ∀ p, spMem p m → p < b.length ∧ ¬ spMem p kn0) : ∀ (n k : Nat) (g : SrcG), k + n = m.length → GK b (30 + k) g → (∀ p, spMem p g.known ↔ spMem p kn0 ∨ spMem p (m.take k)) →
    ∃ g', Runs (backB b m) (n + 1) (g, (k : Int)) (.inl g') ∧ GK b (30 + m.length) g' ∧ ∀ p, spMem p g'.known ↔ spMem p kn0 ∨ spMem p m
  | 0, k, g, hk, h1, h2 => ⟨g, .stop (by simp only [backB]; exact if_not (by simp; omega) rfl), by rw [show m.length = k by omega]; exact h1, fun p => by rw [h2, List.take_of_length_le (by omega)]⟩
  | n + 1, k, g, hk, h1, h2 => by
    have hkl : k < m.length := by omega
    have e : ix m (k : Int) = m[k] := ix_nat hkl
    obtain ⟨ht, hf, hi, hl⟩ := h1
    have hx := hm.1 _ (List.getElem_mem hkl)
    have hin : spMem m[k].From m := ⟨m[k], List.getElem_mem hkl, Int.le_refl _, hx.2⟩
    have hto := (hmm (m[k].To - 1) ⟨m[k], List.getElem_mem hkl, by omega, by omega⟩).1
    have hnk : ¬ spMem m[k].From g.known := fun h => by
      rcases (h2 _).1 h with h | ⟨y, hy, hy2⟩
      · exact (hmm _ hin).2 h
      · have := form_lt hm hkl hy
        have := hy2.2
        omega
    obtain ⟨r, r1, r2, r3, r4⟩ := set_upto (a := max 0 m[k].From) hf (by omega)
    have hr : r = m[k].From := by
      by_cases hc : m[k].From < r
      · have := r3 m[k].From (by omega) hc; exact absurd this hnk
      · omega
    have hc : 0 ≤ (ix m (k : Int)).From ∧ (ix m (k : Int)).From ≤ (ix m (k : Int)).To ∧ (ix m (k : Int)).To ≤ b.length := by rw [e]; omega
    have hpl := part_len (b := b) hc
    obtain ⟨kn, k1, k2, k3, k4, k5⟩ := src_put (g := g) (l := part b (ix m (k : Int)).From (ix m (k : Int)).To) (by omega) hc.1 (by rw [hpl]; omega) hf hi (by omega)
    obtain ⟨g', q1, q2⟩ := back_runs hb hm hml hmm n (k + 1) ⟨g.total, kn⟩ (by omega) ⟨ht, k2, k3, by show kn.length ≤ 30 + (k + 1); omega⟩ (fun p => by
      rw [k5, h2, take_mem hkl, or_assoc, hpl, e]
      exact or_congr Iff.rfl (or_congr Iff.rfl ⟨fun h => ⟨h.1, by omega⟩, fun h => ⟨h.1, by have := h.2; omega⟩⟩))
    refine ⟨g', .step ?_ q1, q2⟩
    simp only [backB]
    refine if_of (decide_eq_true (by omega)) (need_of ⟨by omega, by omega⟩ (bnd_of (by rw [e]; exact r1) ?_))
    rw [if_neg (by simp only [e, hr]; simp; omega), need_pos hc]
    refine bnd_of k1 ?_
    rw [if_neg (by simp), w64_id (by omega) (by omega)]; rfl
theorem form_none {l : List api_Span} (h : Form l) (hn : ∀ p, ¬ spMem p l) : l = [] := by
  cases l with
  | nil => rfl
  | cons x l => exact absurd ⟨x, List.mem_cons_self, Int.le_refl _, (h.1 x List.mem_cons_self).2⟩ (hn x.From)
theorem law35_RangesMissing_true {b : List UInt8} {put l : List api_Span} (hl : SpI l) : law35_RangesMissing b put l = some true := by
  unfold law35_RangesMissing
  by_cases hs : (b.length : Int) > 300 ∨ (put.length : Int) > 30 ∨ (l.length : Int) > 30
  · exact if_of (by simp; omega) rfl
  refine if_not (by simp; omega) ?_
  obtain ⟨g, inn, r1, r2, r3, r4⟩ := puts_runs (b := b) (put := put) (by omega) (by omega) put.length 0 ⟨b.length, []⟩ [] (by omega) ⟨rfl, form_nil, fun _ h => absurd h List.not_mem_nil, by simp⟩ (by simp) (fun p => ⟨fun ⟨_, h, _⟩ => absurd h List.not_mem_nil, fun h => absurd h inL_nil⟩)
  obtain ⟨ht, hf, hi, hlen⟩ := r2
  have hmul : ∀ n, n ≤ 2000 → l.length * (n + 1) ≤ 100000000 := fun n hn => Nat.le_trans (Nat.mul_le_mul (show l.length ≤ 30 by omega) (show n + 1 ≤ 2001 by omega)) (by decide)
  obtain ⟨m, m1, m2, m3, m4⟩ := ranges_missing (g := g) (l := l) hf hi hl (by omega) (hmul _ (by omega))
  have hm1000 : m.length ≤ 1000 := Nat.le_trans m3 (Nat.le_trans (Nat.mul_le_mul (show l.length ≤ 30 by omega) (show g.known.length + 1 ≤ 31 by omega)) (by decide))
  have hmr : ref35_Missing b.length inn l = some m := missing_ref (kn := g.known) (by omega) hl (by omega) m2 (by rw [← ht]; exact m4) r4
  obtain ⟨g', q1, q2, q3⟩ := back_runs (b := b) (m := m) (kn0 := g.known) (by omega) m2 hm1000 (fun p hp => by have := (m4 p).1 hp; rw [ht] at this; exact this.2) m.length 0 g (by omega) ⟨ht, hf, hi, by omega⟩ (fun p => by simp [spMem])
  obtain ⟨ht', hf', hi', hlen'⟩ := q2
  obtain ⟨m', p1, p2, p3, p4⟩ := ranges_missing (g := g') (l := l) hf' hi' hl (by omega) (hmul _ (by omega))
  have hm' : m' = [] := form_none p2 fun p hp => by
    obtain ⟨a1, a2, a3⟩ := (p4 p).1 hp
    have : ¬ (spMem p g.known ∨ spMem p m) := fun h => a3 ((q3 p).2 h)
    exact this (.inr ((m4 p).2 ⟨a1, by rw [ht]; rw [ht'] at a2; exact a2, fun h => this (.inl h)⟩))
  subst hm'
  refine bnd_of (r1.iter (by omega)) (bnd_of m1 (bnd_of hmr (bnd_of (same_refl (by omega)) (if_not (by simp) (bnd_of (q1.iter (by omega)) (bnd_of p1 rfl))))))
end Go.AB
end

section
namespace Go.AB
open Go Go.RowKit Go.ChangeShapes Go.WideShapes

/-- At a law's start: so many first cells of each block never change. -/
def bigR (N : Nat) (w : World) (b : Nat) : Nat := if b < w.heap.size then N else 0

theorem law_calls' {P : Program} {w : World} {f : FuncId} {args : List AV} {vs : Array Value} (N : Nat) (hf : FN P f args noStore fun rs _ => rs = [.bool true]) (ha : ArgsR w (bigR N w) args vs) :
    Calls P f vs w fun e w' => e = .returned (.bool true) ∧ Below w.heap.size w w' := by
  refine (hf ⟨bigR N w, fun _ => .none⟩ w vs ⟨fun _ _ => rfl, fun b hb => ?_⟩ (fun b => .inl rfl) (fun b o h => by cases h) ha).mono fun e w' ⟨v, rs, s', G', he, hq, _, _, hr, hp⟩ => ?_
  · show bigR N w b = 0
    unfold bigR
    rw [if_neg (by omega)]
  · subst hq
    refine ⟨?_, ⟨hp.os, hp.tape, hp.output, hp.size, fun b hb => hp.frame b hb (.inr rfl)⟩⟩
    rw [he]
    have := VR.inv_bool hr.1
    rw [this]

def VRs (w : World) (R : Nat → Nat) (as1 : List AV) (cs : List Value) : Prop := cs.length = as1.length ∧ ∀ (j : Nat) (a : AV) (v : Value), as1[j]? = some a → cs[j]? = some v → VR w R a v

theorem VRs.one {w : World} {R : Nat → Nat} {a : AV} {v : Value} (h : VR w R a v) : VRs w R [a] [v] := by
  refine ⟨rfl, fun j a' v' h1 h2 => ?_⟩
  cases j with
  | zero => cases h1; cases h2; exact h
  | succ j => simp at h1
theorem VRs.append {w : World} {R : Nat → Nat} {as1 bs : List AV} {cs ds : List Value} (h : VRs w R as1 cs) (k : VRs w R bs ds) : VRs w R (as1 ++ bs) (cs ++ ds) := by
  refine ⟨by rw [List.length_append, List.length_append, h.1, k.1], fun j a v h1 h2 => ?_⟩
  rcases Nat.lt_or_ge j as1.length with hj | hj
  · rw [List.getElem?_append_left hj] at h1
    rw [List.getElem?_append_left (by rw [h.1]; exact hj)] at h2
    exact h.2 j a v h1 h2
  · rw [List.getElem?_append_right hj] at h1
    rw [List.getElem?_append_right (by rw [h.1]; exact hj), h.1] at h2
    exact k.2 _ a v h1 h2

/-- What cells of a Go type read as: values of a Lean type. -/
def OpensC (P : Program) (t : TypeId) {α : Type} (n : Nat) (C : α → List AV) (wf : α → Prop) : Prop :=
  ∀ (H : Type) (enc : TypeId × Value → H) (w : World) (fuel : Nat) (cs : List Value) (x : DataW H × List MemPlace), DataW.trod enc P w 0 (fun _ => true) true fuel t cs = some x →
    cs.length = n ∧ ∃ a : α, wf a ∧ Fl (C a) ∧ ∃ N0, ∀ N, N0 ≤ N → VRs w (bigR N w) (C a) cs
def Opens (P : Program) (t : TypeId) (α : Type) [Enc α] (wf : α → Prop) : Prop := OpensC P t (Enc.w α) (Enc.cells : α → List AV) wf

section
variable {P : Program} {t : TypeId}
theorem fl_one {a : AV} (h : flatV a = true) : Fl [a] := by
  intro c hc
  rw [List.mem_singleton] at hc; rw [hc]; exact h

theorem opens_bool (ht : P.underlying t = some .bool) : Opens P t Bool fun _ => True := by
  intro H enc w fuel cs x h
  obtain ⟨b, rfl, _⟩ := DataW.trod_bool ht h
  exact ⟨rfl, b, trivial, fl_one rfl, 0, fun N _ => VRs.one (.bool b)⟩
theorem opens_int (ht : P.underlying t = some (.int .i64)) : Opens P t Int fun n => -9223372036854775808 ≤ n ∧ n ≤ 9223372036854775807 := by
  intro H enc w fuel cs x h
  obtain ⟨n, rfl, _, hw⟩ := DataW.trod_int ht h
  refine ⟨rfl, n, ?_, fl_one rfl, 0, fun N _ => VRs.one (.int _ n)⟩
  simpa [Lit.wf, IntKind.min, IntKind.max, IntKind.signed, IntKind.bits] using hw
theorem opens_u8 (ht : P.underlying t = some (.int .u8)) : Opens P t UInt8 fun _ => True := by
  intro H enc w fuel cs x h
  obtain ⟨n, rfl, _, hw⟩ := DataW.trod_int ht h
  have hb : 0 ≤ n ∧ n ≤ 255 := by simpa [Lit.wf, IntKind.min, IntKind.max, IntKind.signed, IntKind.bits] using hw
  refine ⟨rfl, UInt8.ofNat n.toNat, trivial, fl_one rfl, 0, fun N _ => ?_⟩
  have e : ((UInt8.ofNat n.toNat).toNat : Int) = n := by
    rw [UInt8.toNat_ofNat']; omega
  show VRs _ _ [.int .u8 ((UInt8.ofNat n.toNat).toNat : Int)] _
  rw [e]
  exact VRs.one (.int _ n)
theorem opens_u32 (ht : P.underlying t = some (.int .u32)) : Opens P t UInt32 fun _ => True := by
  intro H enc w fuel cs x h
  obtain ⟨n, rfl, _, hw⟩ := DataW.trod_int ht h
  have hb : 0 ≤ n ∧ n ≤ 4294967295 := by simpa [Lit.wf, IntKind.min, IntKind.max, IntKind.signed, IntKind.bits] using hw
  refine ⟨rfl, UInt32.ofNat n.toNat, trivial, fl_one rfl, 0, fun N _ => ?_⟩
  have e : ((UInt32.ofNat n.toNat).toNat : Int) = n := by
    rw [UInt32.toNat_ofNat']; omega
  show VRs _ _ [.int .u32 ((UInt32.ofNat n.toNat).toNat : Int)] _
  rw [e]
  exact VRs.one (.int _ n)
theorem opens_u64 (ht : P.underlying t = some (.int .u64)) : Opens P t UInt64 fun _ => True := by
  intro H enc w fuel cs x h
  obtain ⟨n, rfl, _, hw⟩ := DataW.trod_int ht h
  have hb : 0 ≤ n ∧ n ≤ 18446744073709551615 := by simpa [Lit.wf, IntKind.min, IntKind.max, IntKind.signed, IntKind.bits] using hw
  refine ⟨rfl, UInt64.ofNat n.toNat, trivial, fl_one rfl, 0, fun N _ => ?_⟩
  have e : ((UInt64.ofNat n.toNat).toNat : Int) = n := by
    rw [UInt64.toNat_ofNat']; omega
  show VRs _ _ [.int .u64 ((UInt64.ofNat n.toNat).toNat : Int)] _
  rw [e]
  exact VRs.one (.int _ n)
theorem opens_str (ht : P.underlying t = some .string) : Opens P t Str fun s => s.b.length ≤ maxLen := by
  intro H enc w fuel cs x h
  obtain ⟨s, rfl, _, hs⟩ := DataW.trod_string ht h
  refine ⟨rfl, ⟨s.data.toList⟩, by simpa using hs, fl_one rfl, 0, fun N _ => ?_⟩
  have := VR.str (w := w) (R := bigR N w) s.data.toList
  exact VRs.one this

theorem choose_list {α : Type} {Q : Nat → α → Prop} : ∀ n : Nat, (∀ i, i < n → ∃ a, Q i a) → ∃ l : List α, l.length = n ∧ ∀ (i : Nat) (a : α), l[i]? = some a → Q i a
  | 0, _ => ⟨[], rfl, fun i a h => by simp at h⟩
  | n + 1, h => by
    obtain ⟨l, h1, h2⟩ := choose_list n fun i hi => h i (by omega)
    obtain ⟨a, ha⟩ := h n (by omega)
    refine ⟨l ++ [a], by simp [h1], fun i x hx => ?_⟩
    rcases Nat.lt_or_ge i n with hi | hi
    · rw [List.getElem?_append_left (by omega)] at hx; exact h2 i x hx
    · rw [List.getElem?_append_right (by omega)] at hx
      have : i = n := by
        have := (List.getElem?_eq_some_iff.1 hx).1
        simp at this; omega
      subst this
      rw [h1, Nat.sub_self] at hx
      injection hx with hx; rw [← hx]; exact ha
theorem common {Q : Nat → Nat → Prop} : ∀ n : Nat, (∀ i, i < n → ∃ N0, ∀ N, N0 ≤ N → Q i N) → ∃ N0, ∀ N, N0 ≤ N → ∀ i, i < n → Q i N
  | 0, _ => ⟨0, fun _ _ i h => absurd h (Nat.not_lt_zero i)⟩
  | n + 1, h => by
    obtain ⟨a, ha⟩ := common n fun i hi => h i (by omega)
    obtain ⟨b, hb⟩ := h n (by omega)
    refine ⟨max a b, fun N hN i hi => ?_⟩
    rcases Nat.lt_or_ge i n with h1 | h1
    · exact ha N (by omega) i h1
    · have : i = n := by omega
      rw [this]; exact hb N (by omega)

theorem flat_get {α : Type} [Enc α] (l : List α) {i r : Nat} {a : α} (hi : l[i]? = some a) (hr : r < Enc.w α) : (flat l)[i * Enc.w α + r]? = (Enc.cells a)[r]? := by
  have h1 := flat_sub l (Enc.w α) i 1 rfl
  obtain ⟨hlt, he⟩ := List.getElem?_eq_some_iff.1 hi
  have h2 : (l.drop i).take 1 = [a] := by rw [List.drop_eq_getElem_cons hlt, he]; rfl
  rw [h2, flat_cons, flat_nil, List.append_nil, Nat.one_mul] at h1
  rw [← h1]
  unfold AB.sub
  rw [List.getElem?_take, if_pos hr, List.getElem?_drop]

/-- A slice of them, as an argument. -/
theorem open_slice {H : Type} {enc : TypeId × Value → H} {w : World} {e : TypeId} {α : Type} [Enc α] {wf : α → Prop} {b0 : Nat} {v : Value} {d : DataW H} {ps : List MemPlace}
    (ht : P.underlying t = some (.slice e)) (hc : P.cellsOf e = Enc.w α) (he : Opens P e α wf) (hval : Value.okWide P w .any b0 t v) (h : DataW.Trod enc P w 0 (fun _ => true) true t v d ps) :
    ∃ l : List α, l.length ≤ maxLen ∧ (∀ a ∈ l, wf a) ∧ ∃ N0, ∀ N, N0 ≤ N → VR w (bigR N w) (.sl false (Enc.w α) l.length (flat l)) v := by
  have hv : v = .slice none 0 0 ∨ ∃ a len cap, v = .slice (some a) len cap ∧ w.has P .any b0 a e cap := by
    unfold Value.okWide Cell.okWide Cell.ok at hval
    rw [ht] at hval
    dsimp only at hval
    split at hval <;> simp_all
    exact ⟨_, _, _, ⟨rfl, rfl, rfl⟩, hval.2.2⟩
  obtain ⟨fuel, hf⟩ := h
  rcases hv with rfl | ⟨a, len, cap, rfl, hhas⟩
  · exact ⟨[], Nat.zero_le _, (fun _ h => absurd h List.not_mem_nil), 0, fun N _ => .slnil _ _⟩
  · obtain ⟨_, hsp, row, cells, hsh, _⟩ := hhas
    obtain ⟨b, off, spot⟩ := a
    simp only at hsp hsh
    subst hsp
    have hb : b < w.heap.size := by
      rcases Nat.lt_or_ge b w.heap.size with h | h
      · exact h
      · unfold World.shape? at hsh
        rw [Array.getElem?_eq_none h] at hsh
        cases hsh
    rcases DataW.trod_slice ht hf with ⟨h0, _⟩ | ⟨a, len', cap', elems, rest, n, _, hcs, _, _, hl, hm, hlen, hel, _⟩
    · simp [Value.cells] at h0
    · have hcs' : (a = ⟨b, off, none⟩ ∧ len' = len) ∧ cap' = cap := by
        simp [Value.cells] at hcs
        exact ⟨⟨hcs.1.symm, hcs.2.1.symm⟩, hcs.2.2.symm⟩
      obtain ⟨⟨rfl, rfl⟩, rfl⟩ := hcs'
      have each : ∀ i, i < len' → ∃ x : α × List Value, wf x.1 ∧ Fl (Enc.cells x.1) ∧ w.cells? 0 ((⟨b, off, none⟩ : Addr).add (i * Enc.w α)) (Enc.w α) = some x.2 ∧ ∃ N0, ∀ N, N0 ≤ N → VRs w (bigR N w) (Enc.cells x.1) x.2 := by
        intro i hi
        have h1 := hel i hi
        rw [hc, List.getElem?_eq_getElem (by omega), Option.bind_eq_some_iff] at h1
        obtain ⟨cs, h2, h3⟩ := h1
        obtain ⟨_, x, h4, h5, h6⟩ := he H enc w n cs _ h3
        exact ⟨(x, cs), h4, h5, h2, h6⟩
      obtain ⟨L, hL, hQ⟩ := choose_list len' each
      have hx : ∀ i, i < len' → ∃ x, L[i]? = some x := fun i hi => ⟨L[i]'(by omega), List.getElem?_eq_getElem (by omega)⟩
      obtain ⟨N0, hN0⟩ := common (Q := fun i N => ∀ x, L[i]? = some x → VRs w (bigR N w) (Enc.cells x.1) x.2) len' fun i hi => by
        obtain ⟨x, hx⟩ := hx i hi
        obtain ⟨_, _, _, N0, h⟩ := hQ i x hx
        exact ⟨N0, fun N hN y hy => by rw [hx] at hy; cases hy; exact h N hN⟩
      have hwf : ∀ a ∈ L.map (·.1), wf a ∧ Fl (Enc.cells a) := by
        intro a ha
        obtain ⟨x, hx, rfl⟩ := List.mem_map.1 ha
        obtain ⟨i, hi⟩ := List.getElem?_of_mem hx
        have := hQ i x hi
        exact ⟨this.1, this.2.1⟩
      have hget : ∀ (j : Nat) (c : AV), (flat (L.map (·.1)))[j]? = some c → ∃ v, w.cell? ⟨b, off + j, none⟩ = some v ∧ ∀ N, N0 ≤ N → VR w (bigR N w) c v := by
        intro j c hj
        have hw : 0 < Enc.w α := Enc.pos
        have hjl := (List.getElem?_eq_some_iff.1 hj).1
        rw [flat_len, List.length_map, hL] at hjl
        have hi : j / Enc.w α < len' := Nat.div_lt_of_lt_mul (by rw [Nat.mul_comm]; exact hjl)
        have hr : j % Enc.w α < Enc.w α := Nat.mod_lt _ hw
        have hje : j = j / Enc.w α * Enc.w α + j % Enc.w α := by rw [Nat.mul_comm]; exact (Nat.div_add_mod _ _).symm
        obtain ⟨x, hx⟩ := hx _ hi
        have h1 := flat_get (L.map (·.1)) (i := j / Enc.w α) (a := x.1) (by rw [List.getElem?_map, hx]; rfl) hr
        rw [← hje, hj] at h1
        obtain ⟨_, _, h2, _⟩ := hQ _ x hx
        obtain ⟨_, h3, h4⟩ := World.cells?_some h2
        have h5 := h4 _ hr
        rw [add_plain, add_plain, Nat.add_assoc, ← hje] at h5
        refine ⟨x.2[j % Enc.w α]'(by omega), by rw [h5, List.getElem?_eq_getElem], fun N hN => ?_⟩
        exact (hN0 N hN _ hi x hx).2 _ _ _ h1.symm (List.getElem?_eq_getElem _)
      refine ⟨L.map (·.1), by rw [List.length_map, hL]; omega, fun a ha => (hwf a ha).1, max N0 (off + len' * Enc.w α), fun N hN => ?_⟩
      rw [List.length_map, hL]
      refine .sl false (Enc.w α) len' _ b off cap' (fun j => (w.cell? ⟨b, off + j, none⟩).getD default) ?_ ?_ ?_ hl ?_ ?_
      · intro c hcm
        unfold flat at hcm
        obtain ⟨l, hl, hcl⟩ := List.mem_flatten.1 hcm
        obtain ⟨a, ha, rfl⟩ := List.mem_map.1 hl
        exact (hwf a ha).2 c hcl
      · rw [flat_len, List.length_map, hL]
      · rw [flat_len, List.length_map, hL]
        unfold bigR
        rw [if_pos hb]; omega
      · intro j c hj
        obtain ⟨v, h1, _⟩ := hget j c hj
        rw [h1]; rfl
      · intro j c hj
        obtain ⟨v, h1, h2⟩ := hget j c hj
        simp only [h1, Option.getD_some]; exact h2 N (by omega)
end
end Go.AB
end

section
namespace Go.AB
open Go Go.RowKit Go.ChangeShapes Go.WideShapes

section
variable {P : Program}

theorem trodAll_below {H : Type} {enc : TypeId × Value → H} (hl : laidOutB P = true) {W W' : World} (hb : Below W.heap.size W W') :
    ∀ {ts : List TypeId} {vs : List Value} {ds : List (DataW H)} {ps : List MemPlace}, (∀ t ∈ ts, P.readableRec t = true ∧ t < P.types.size) → DataW.TrodAll enc P W 0 (fun _ => true) true ts vs ds ps →
      DataW.TrodAll enc P W' 0 (fun b => decide (b < W.heap.size)) true ts vs ds ps
  | [], [], [], _, _, h => h
  | t :: ts, v :: vs, d :: ds, _, hr, h => by
    have hlt := h.lt
    obtain ⟨p, q, h1, h2, rfl⟩ := h
    have ht := hr t List.mem_cons_self
    exact ⟨p, q, Below.trod hl ht.1 ht.2 h1 hb fun x hx => hlt x (List.mem_append_left _ hx), trodAll_below hl hb (fun t ht => hr t (List.mem_cons_of_mem _ ht)) h2, rfl⟩
  | [], _ :: _, _, _, _, h => h.elim
  | [], [], _ :: _, _, _, h => h.elim
  | _ :: _, [], _, _, _, h => h.elim
  | _ :: _, _ :: _, [], _, _, h => h.elim

/-- What a law's row asks, once its call returns true and turns nothing that was there. -/
theorem law_post {H : Type} {enc : TypeId × Value → H} {fn : Func} {s : ChangeSpec} {f : FuncId} {W : World} {args : Array Value} {ds gs : List (DataW H)} {before : List MemPlace} {tb : TypeId}
    (hvars : s.vars = []) (hres : fn.resultTypes = #[tb]) (htb : P.underlying tb = some .bool) (hl : laidOutB P = true) (hr : ∀ t ∈ fn.params.toList, P.readableRec t = true ∧ t < P.types.size)
    (hspec : ∀ ds : List (DataW H), ds.length = fn.params.toList.length → s.fn H ds = { results := [.lit (.bool true)], args := ds })
    (hW : DataW.Whole enc P fn.params.toList s.vars false W args.toList ds gs before)
    (hc : Calls P f args W fun e w' => e = .returned (.bool true) ∧ Below W.heap.size W w') :
    Calls P f args W fun e W' => ∃ v, e = .returned v ∧ s.post enc P fn false true false false W args v W' := by
  refine hc.mono fun e W' ⟨he, hb⟩ => ⟨.bool true, he, ?_⟩
  have hW' := hW
  obtain ⟨p, q, hA, hV, rfl, hfz, hnd⟩ := hW
  rw [hvars] at hV
  obtain ⟨rfl, rfl⟩ := trodVars_none hV
  have hs := hspec ds (trodAll_length hA).2
  refine ⟨ds, [], _, [], p, [], hW', ?_, ?_, ?_, ?_, fun h => by cases h⟩
  · rw [List.append_nil, hs, hres]
    exact trodAll_mk1 (shut_bool htb true)
  · rw [List.append_nil, hs]
    exact trodAll_below hl hb hr hA
  · rw [List.append_nil, hs, hvars]
    exact rfl
  · exact World.keptBut_mono (fun p hp => hp.elim) (hb.frame fun _ => False)

/-! Products. -/
def OpensF (P : Program) (fs : List (TypeId × Nat)) (o : Nat) {α : Type} (n : Nat) (C : α → List AV) (wf : α → Prop) : Prop :=
  ∀ (H : Type) (enc : TypeId × Value → H) (w : World) (fuel : Nat) (cs : List Value), (∀ f ∈ fs, ∃ x, DataW.trod enc P w 0 (fun _ => true) true fuel f.1 ((cs.drop f.2).take (P.cellsOf f.1)) = some x) →
    ∃ a : α, wf a ∧ Fl (C a) ∧ ∃ N0, ∀ N, N0 ≤ N → VRs w (bigR N w) (C a) ((cs.drop o).take n)

theorem opensF_nil {o : Nat} : OpensF P [] o 0 (fun _ : Unit => []) fun _ => True :=
  fun _ _ _ _ _ _ => ⟨(), trivial, (fun _ h => absurd h List.not_mem_nil), 0, fun _ _ => ⟨by simp, fun j a v h => by simp at h⟩⟩
theorem opensF_cons {t : TypeId} {o n1 n2 : Nat} {fs : List (TypeId × Nat)} {α β : Type} {C1 : α → List AV} {C2 : β → List AV} {wf1 : α → Prop} {wf2 : β → Prop}
    (h1 : OpensC P t n1 C1 wf1) (hc : P.cellsOf t = n1) (h2 : OpensF P fs (o + n1) n2 C2 wf2) : OpensF P ((t, o) :: fs) o (n1 + n2) (fun p : α × β => C1 p.1 ++ C2 p.2) fun p => wf1 p.1 ∧ wf2 p.2 := by
  intro H enc w fuel cs h
  obtain ⟨x, hx⟩ := h _ List.mem_cons_self
  obtain ⟨_, a, ha, hfa, N1, hN1⟩ := h1 H enc w fuel _ x hx
  obtain ⟨b, hb, hfb, N2, hN2⟩ := h2 H enc w fuel cs fun f hf => h f (List.mem_cons_of_mem _ hf)
  refine ⟨(a, b), ⟨ha, hb⟩, fun c hc => (List.mem_append.1 hc).elim (hfa c) (hfb c), max N1 N2, fun N hN => ?_⟩
  rw [List.take_add, List.drop_drop]
  refine VRs.append ?_ (hN2 N (by omega))
  rw [← hc]
  exact hN1 N (by omega)
theorem OpensC.map {t : TypeId} {n : Nat} {α β : Type} {C : α → List AV} {wf : α → Prop} (h : OpensC P t n C wf) {C' : β → List AV} {wf' : β → Prop} (g : α → β) (hC : ∀ a, C' (g a) = C a) (hw : ∀ a, wf a → wf' (g a)) : OpensC P t n C' wf' := by
  intro H enc w fuel cs x hx
  obtain ⟨h1, a, h2, h3, N0, h4⟩ := h H enc w fuel cs x hx
  exact ⟨h1, g a, hw a h2, by rw [hC]; exact h3, N0, by rw [hC]; exact h4⟩
theorem opens_struct {t : TypeId} {fs : Array Field} {n : Nat} {α : Type} {C : α → List AV} {wf : α → Prop} (ht : P.underlying t = some (.struct fs)) (hn : P.cellsOf t = n)
    (hf : OpensF P (fs.toList.map fun f => (f.type, f.offset)) 0 n C wf) : OpensC P t n C wf := by
  intro H enc w fuel cs x h
  obtain ⟨xs, m, _, _, hl, hxl, hel⟩ := DataW.trod_struct ht h
  obtain ⟨a, ha, hfa, N0, hN⟩ := hf H enc w m cs fun f hf => by
    obtain ⟨g, hg, rfl⟩ := List.mem_map.1 hf
    obtain ⟨i, hi⟩ := List.getElem?_of_mem hg
    have h1 := hel i g (by rw [← Array.getElem?_toList]; exact hi)
    have hi' := (List.getElem?_eq_some_iff.1 hi).1
    rw [List.getElem?_eq_getElem (by simpa [hxl] using hi')] at h1
    exact ⟨_, h1⟩
  refine ⟨by rw [hl, hn], a, ha, hfa, N0, fun N h => ?_⟩
  have := hN N h
  rwa [List.drop_zero, List.take_of_length_le (by omega)] at this
theorem opens_array {t e : TypeId} {m k n : Nat} {α : Type} {C : α → List AV} {wf : α → Prop} (ht : P.underlying t = some (.array m e)) (hn : P.cellsOf t = n) (hk : P.cellsOf e = k)
    (hf : OpensF P ((List.range m).map fun i => (e, i * k)) 0 n C wf) : OpensC P t n C wf := by
  intro H enc w fuel cs x h
  obtain ⟨xs, q, _, _, hl, hxl, hel⟩ := DataW.trod_array ht h
  obtain ⟨a, ha, hfa, N0, hN⟩ := hf H enc w q cs fun f hf => by
    obtain ⟨i, hi, rfl⟩ := List.mem_map.1 hf
    have hi' := List.mem_range.1 hi
    have h1 := hel i hi'
    rw [List.getElem?_eq_getElem (by omega), hk] at h1
    rw [hk]
    exact ⟨_, h1⟩
  refine ⟨by rw [hl, hn], a, ha, hfa, N0, fun N h => ?_⟩
  have := hN N h
  rwa [List.drop_zero, List.take_of_length_le (by omega)] at this

/-! Arguments. -/
section
variable {H : Type} {enc : TypeId × Value → H} {w : World} {t : TypeId} {α : Type} [Enc α] {wf : α → Prop} {b0 : Nat} {v : Value} {d : DataW H} {ps : List MemPlace}
theorem open_agg (hs : (∃ fs, P.underlying t = some (.struct fs)) ∨ ∃ n e, P.underlying t = some (.array n e)) (he : Opens P t α wf) (hval : Value.okWide P w .any b0 t v) (h : DataW.Trod enc P w 0 (fun _ => true) true t v d ps) :
    ∃ a : α, wf a ∧ ∃ N0, ∀ N, N0 ≤ N → VR w (bigR N w) (.agg (Enc.cells a)) v := by
  have hv : ∃ cs, v = .agg cs := by
    unfold Value.okWide at hval
    rcases hs with ⟨fs, hs⟩ | ⟨n, e, hs⟩ <;> rw [hs] at hval <;> obtain ⟨cs, rfl, _⟩ := hval <;> exact ⟨cs, rfl⟩
  obtain ⟨cs, rfl⟩ := hv
  obtain ⟨fuel, hf⟩ := h
  obtain ⟨_, a, ha, hfl, N0, hN⟩ := he H enc w fuel _ _ hf
  refine ⟨a, ha, N0, fun N h => ?_⟩
  have h1 := hN N h
  exact .agg _ _ hfl (by simpa [Value.cells] using h1.1) fun j c v h2 h3 => h1.2 j c v h2 (by simpa [Value.cells] using h3)
theorem open_plain (hs : ∀ cs, v ≠ .agg cs) (he : Opens P t α wf) (h : DataW.Trod enc P w 0 (fun _ => true) true t v d ps) :
    ∃ a : α, wf a ∧ ∃ N0, ∀ N, N0 ≤ N → VRs w (bigR N w) (Enc.cells a) [v] := by
  obtain ⟨fuel, hf⟩ := h
  obtain ⟨_, a, ha, _, N0, hN⟩ := he H enc w fuel _ _ hf
  refine ⟨a, ha, N0, fun N h => ?_⟩
  have h1 := hN N h
  have : v.cells.toList = [v] := by
    cases v <;> first | rfl | exact absurd rfl (hs _)
  rwa [this] at h1
theorem VRs.head {R : Nat → Nat} {a : AV} (h : VRs w R [a] [v]) : VR w R a v := h.2 0 a v rfl rfl
theorem open_i64 (ht : P.underlying t = some (.int .i64)) (hval : Value.okWide P w .any b0 t v) (h : DataW.Trod enc P w 0 (fun _ => true) true t v d ps) :
    ∃ n : Int, (-9223372036854775808 ≤ n ∧ n ≤ 9223372036854775807) ∧ ∃ N0, ∀ N, N0 ≤ N → VR w (bigR N w) (.int .i64 n) v := by
  obtain ⟨n, rfl, _⟩ := open_int ht hval h
  obtain ⟨a, ha, N0, hN⟩ := open_plain (fun _ h => by cases h) (opens_int ht) h
  exact ⟨a, ha, N0, fun N h => (hN N h).head⟩
theorem open_byte (ht : P.underlying t = some (.int .u8)) (hval : Value.okWide P w .any b0 t v) (h : DataW.Trod enc P w 0 (fun _ => true) true t v d ps) :
    ∃ n : UInt8, True ∧ ∃ N0, ∀ N, N0 ≤ N → VR w (bigR N w) (.int .u8 n.toNat) v := by
  obtain ⟨n, rfl, _⟩ := open_int ht hval h
  obtain ⟨a, ha, N0, hN⟩ := open_plain (fun _ h => by cases h) (opens_u8 ht) h
  exact ⟨a, ha, N0, fun N h => (hN N h).head⟩
theorem open_w32 (ht : P.underlying t = some (.int .u32)) (hval : Value.okWide P w .any b0 t v) (h : DataW.Trod enc P w 0 (fun _ => true) true t v d ps) :
    ∃ n : UInt32, True ∧ ∃ N0, ∀ N, N0 ≤ N → VR w (bigR N w) (.int .u32 n.toNat) v := by
  obtain ⟨n, rfl, _⟩ := open_int ht hval h
  obtain ⟨a, ha, N0, hN⟩ := open_plain (fun _ h => by cases h) (opens_u32 ht) h
  exact ⟨a, ha, N0, fun N h => (hN N h).head⟩
theorem open_w64 (ht : P.underlying t = some (.int .u64)) (hval : Value.okWide P w .any b0 t v) (h : DataW.Trod enc P w 0 (fun _ => true) true t v d ps) :
    ∃ n : UInt64, True ∧ ∃ N0, ∀ N, N0 ≤ N → VR w (bigR N w) (.int .u64 n.toNat) v := by
  obtain ⟨n, rfl, _⟩ := open_int ht hval h
  obtain ⟨a, ha, N0, hN⟩ := open_plain (fun _ h => by cases h) (opens_u64 ht) h
  exact ⟨a, ha, N0, fun N h => (hN N h).head⟩
theorem open_truth (ht : P.underlying t = some .bool) (hval : Value.okWide P w .any b0 t v) (h : DataW.Trod enc P w 0 (fun _ => true) true t v d ps) :
    ∃ b : Bool, True ∧ ∃ N0, ∀ N, N0 ≤ N → VR w (bigR N w) (.bool b) v := by
  obtain ⟨n, rfl, _⟩ := open_bool ht hval h
  exact ⟨n, trivial, 0, fun N _ => .bool n⟩
theorem open_text (ht : P.underlying t = some .string) (hval : Value.okWide P w .any b0 t v) (h : DataW.Trod enc P w 0 (fun _ => true) true t v d ps) :
    ∃ s : Str, s.b.length ≤ maxLen ∧ ∃ N0, ∀ N, N0 ≤ N → VR w (bigR N w) (.str s.b) v := by
  obtain ⟨n, rfl, _⟩ := Go.ChangeMaps.open_string ht hval h
  obtain ⟨a, ha, N0, hN⟩ := open_plain (fun _ h => by cases h) (opens_str ht) h
  exact ⟨a, ha, N0, fun N h => (hN N h).head⟩
end

theorem args1 {w : World} {R : Nat → Nat} {a0 : AV} {v0 : Value} (h0 : VR w R a0 v0) : ArgsR w R [a0] #[v0] :=
  ⟨rfl, fun j a v h1 h2 => by match j, h1, h2 with | 0, h1, h2 => (cases h1; cases h2; exact h0)⟩
theorem args2 {w : World} {R : Nat → Nat} {a0 a1 : AV} {v0 v1 : Value} (h0 : VR w R a0 v0) (h1 : VR w R a1 v1) : ArgsR w R [a0, a1] #[v0, v1] :=
  ⟨rfl, fun j a v k1 k2 => by match j, k1, k2 with | 0, k1, k2 => (cases k1; cases k2; exact h0) | 1, k1, k2 => (cases k1; cases k2; exact h1)⟩
theorem args3 {w : World} {R : Nat → Nat} {a0 a1 a2 : AV} {v0 v1 v2 : Value} (h0 : VR w R a0 v0) (h1 : VR w R a1 v1) (h2 : VR w R a2 v2) : ArgsR w R [a0, a1, a2] #[v0, v1, v2] :=
  ⟨rfl, fun j a v k1 k2 => by match j, k1, k2 with | 0, k1, k2 => (cases k1; cases k2; exact h0) | 1, k1, k2 => (cases k1; cases k2; exact h1) | 2, k1, k2 => (cases k1; cases k2; exact h2)⟩
end
end Go.AB
end

section
namespace Go.AB
open Go

def fieldsAre (P : Program) (t : TypeId) (L : List (TypeId × Nat)) : Bool := match P.underlying t with
  | some (.struct fs) => fs.toList.map (fun f => (f.type, f.offset)) == L
  | _ => false
theorem opens_fields {P : Program} {t : TypeId} {L : List (TypeId × Nat)} {n : Nat} {α : Type} {C : α → List AV} {wf : α → Prop} (hs : fieldsAre P t L = true) (hn : P.cellsOf t = n) (hf : OpensF P L 0 n C wf) : OpensC P t n C wf := by
  unfold fieldsAre at hs
  split at hs
  · rename_i fs ht
    have he := eq_of_beq hs
    exact opens_struct ht hn (by rw [he]; exact hf)
  · cases hs
end Go.AB
end

section
namespace Go.AB
open Go Go.RowKit Go.ChangeShapes Go.WideShapes

/-- What cells of a Go type read as, up to a depth. -/
def OpensB (K : Nat) (P : Program) (t : TypeId) {α : Type} (n : Nat) (C : α → List AV) (wf : α → Prop) : Prop :=
  ∀ (H : Type) (enc : TypeId × Value → H) (w : World) (fuel : Nat) (cs : List Value) (x : DataW H × List MemPlace), fuel ≤ K → DataW.trod enc P w 0 (fun _ => true) true fuel t cs = some x →
    cs.length = n ∧ ∃ a : α, wf a ∧ Fl (C a) ∧ ∃ N0, ∀ N, N0 ≤ N → VRs w (bigR N w) (C a) cs
def OpensFB (K : Nat) (P : Program) (fs : List (TypeId × Nat)) (o : Nat) {α : Type} (n : Nat) (C : α → List AV) (wf : α → Prop) : Prop :=
  ∀ (H : Type) (enc : TypeId × Value → H) (w : World) (fuel : Nat) (cs : List Value), fuel ≤ K → (∀ f ∈ fs, ∃ x, DataW.trod enc P w 0 (fun _ => true) true fuel f.1 ((cs.drop f.2).take (P.cellsOf f.1)) = some x) →
    ∃ a : α, wf a ∧ Fl (C a) ∧ ∃ N0, ∀ N, N0 ≤ N → VRs w (bigR N w) (C a) ((cs.drop o).take n)

section
variable {P : Program} {t : TypeId}

theorem OpensC.b {n : Nat} {α : Type} {C : α → List AV} {wf : α → Prop} (h : OpensC P t n C wf) (K : Nat) : OpensB K P t n C wf := fun H enc w fuel cs x _ hx => h H enc w fuel cs x hx
theorem OpensB.all {n : Nat} {α : Type} {C : α → List AV} {wf : α → Prop} (h : ∀ K, OpensB K P t n C wf) : OpensC P t n C wf := fun H enc w fuel cs x hx => h fuel H enc w fuel cs x (Nat.le_refl _) hx
theorem OpensB.le {n : Nat} {α : Type} {C : α → List AV} {wf : α → Prop} {K K' : Nat} (h : OpensB K P t n C wf) (hk : K' ≤ K) : OpensB K' P t n C wf := fun H enc w fuel cs x hf hx => h H enc w fuel cs x (Nat.le_trans hf hk) hx
theorem OpensB.zero {n : Nat} {α : Type} {C : α → List AV} {wf : α → Prop} : OpensB 0 P t n C wf := fun H enc w fuel cs x hf hx => by
  have : fuel = 0 := by omega
  subst this
  simp [DataW.trod] at hx
theorem OpensB.map {K n : Nat} {α β : Type} {C : α → List AV} {wf : α → Prop} (h : OpensB K P t n C wf) {C' : β → List AV} {wf' : β → Prop} (g : α → β) (hC : ∀ a, C' (g a) = C a) (hw : ∀ a, wf a → wf' (g a)) : OpensB K P t n C' wf' := by
  intro H enc w fuel cs x hf hx
  obtain ⟨h1, a, h2, h3, N0, h4⟩ := h H enc w fuel cs x hf hx
  exact ⟨h1, g a, hw a h2, by rw [hC]; exact h3, N0, by rw [hC]; exact h4⟩

theorem opensFB_nil {K o : Nat} : OpensFB K P [] o 0 (fun _ : Unit => []) fun _ => True :=
  fun _ _ _ _ _ _ _ => ⟨(), trivial, (fun _ h => absurd h List.not_mem_nil), 0, fun _ _ => ⟨by simp, fun j a v h => by simp at h⟩⟩
theorem opensFB_cons {K : Nat} {t : TypeId} {o n1 n2 : Nat} {fs : List (TypeId × Nat)} {α β : Type} {C1 : α → List AV} {C2 : β → List AV} {wf1 : α → Prop} {wf2 : β → Prop}
    (h1 : OpensB K P t n1 C1 wf1) (hc : P.cellsOf t = n1) (h2 : OpensFB K P fs (o + n1) n2 C2 wf2) : OpensFB K P ((t, o) :: fs) o (n1 + n2) (fun p : α × β => C1 p.1 ++ C2 p.2) fun p => wf1 p.1 ∧ wf2 p.2 := by
  intro H enc w fuel cs hk h
  obtain ⟨x, hx⟩ := h _ List.mem_cons_self
  obtain ⟨_, a, ha, hfa, N1, hN1⟩ := h1 H enc w fuel _ x hk hx
  obtain ⟨b, hb, hfb, N2, hN2⟩ := h2 H enc w fuel cs hk fun f hf => h f (List.mem_cons_of_mem _ hf)
  refine ⟨(a, b), ⟨ha, hb⟩, fun c hc => (List.mem_append.1 hc).elim (hfa c) (hfb c), max N1 N2, fun N hN => ?_⟩
  rw [List.take_add, List.drop_drop]
  refine VRs.append ?_ (hN2 N (by omega))
  rw [← hc]
  exact hN1 N (by omega)

theorem opens_fieldsB {K : Nat} {L : List (TypeId × Nat)} {n : Nat} {α : Type} {C : α → List AV} {wf : α → Prop} (hs : fieldsAre P t L = true) (hn : P.cellsOf t = n) (hf : OpensFB K P L 0 n C wf) : OpensB (K + 1) P t n C wf := by
  unfold fieldsAre at hs
  split at hs
  · rename_i fs ht
    have he := eq_of_beq hs
    subst he
    intro H enc w fuel cs x hk h
    obtain ⟨xs, m, rfl, _, hl, hxl, hel⟩ := DataW.trod_struct ht h
    obtain ⟨a, ha, hfa, N0, hN⟩ := hf H enc w m cs (by omega) fun f hf => by
      obtain ⟨g, hg, rfl⟩ := List.mem_map.1 hf
      obtain ⟨i, hi⟩ := List.getElem?_of_mem hg
      have h1 := hel i g (by rw [← Array.getElem?_toList]; exact hi)
      have hi' := (List.getElem?_eq_some_iff.1 hi).1
      rw [List.getElem?_eq_getElem (by simpa [hxl] using hi')] at h1
      exact ⟨_, h1⟩
    refine ⟨by rw [hl, hn], a, ha, hfa, N0, fun N h => ?_⟩
    have := hN N h
    rwa [List.drop_zero, List.take_of_length_le (by omega)] at this
  · cases hs

/-- A slice of them, as a cell. -/
theorem slice_cell {w : World} {α : Type} [Enc α] {wf : α → Prop} {a : Addr} {len cap : Nat} (hl : len ≤ cap) (hm : cap ≤ maxLen)
    (each : ∀ i, i < len → ∃ x : α × List Value, wf x.1 ∧ Fl (Enc.cells x.1) ∧ w.cells? 0 (a.add (i * Enc.w α)) (Enc.w α) = some x.2 ∧ ∃ N0, ∀ N, N0 ≤ N → VRs w (bigR N w) (Enc.cells x.1) x.2) :
    ∃ l : List α, (l.length ≤ maxLen ∧ ∀ a ∈ l, wf a) ∧ Fl [.sl false (Enc.w α) l.length (flat l)] ∧ ∃ N0, ∀ N, N0 ≤ N → VRs w (bigR N w) [.sl false (Enc.w α) l.length (flat l)] [.slice (some a) len cap] := by
  have hw : 0 < Enc.w α := Enc.pos
  rcases Nat.eq_zero_or_pos len with h0 | h0
  · subst h0
    exact ⟨[], ⟨Nat.zero_le _, fun _ h => absurd h List.not_mem_nil⟩, fl_one rfl, 0, fun N _ => .one (.sle _ _ _)⟩
  obtain ⟨b, off, spot⟩ := a
  have hplain : spot = none ∧ b < w.heap.size := by
    obtain ⟨x, _, _, h2, _⟩ := each 0 h0
    obtain ⟨_, h3, h4⟩ := World.cells?_some h2
    have h5 := h4 0 hw
    have hxl : 0 < x.2.length := by omega
    rw [List.getElem?_eq_getElem hxl] at h5
    unfold World.cell? at h5
    have e1 : (((⟨b, off, spot⟩ : Addr).add (0 * Enc.w α)).add 0).block = b := by
      unfold Addr.add; repeat' split
      all_goals rfl
    have e2 : (((⟨b, off, spot⟩ : Addr).add (0 * Enc.w α)).add 0).spot.isSome = spot.isSome := by
      cases spot with
      | none => unfold Addr.add; repeat' split
                all_goals simp_all
      | some q => unfold Addr.add; repeat' split
                  all_goals simp_all
    rw [e1, e2] at h5
    split at h5
    · rename_i hh
      refine ⟨?_, (Array.getElem?_eq_some_iff.1 hh).1⟩
      cases spot with
      | none => rfl
      | some q => simp at h5
    · cases h5
  obtain ⟨rfl, hb⟩ := hplain
  obtain ⟨L, hL, hQ⟩ := choose_list len each
  have hx : ∀ i, i < len → ∃ x, L[i]? = some x := fun i hi => ⟨L[i]'(by omega), List.getElem?_eq_getElem (by omega)⟩
  obtain ⟨N0, hN0⟩ := common (Q := fun i N => ∀ x, L[i]? = some x → VRs w (bigR N w) (Enc.cells x.1) x.2) len fun i hi => by
    obtain ⟨x, hx⟩ := hx i hi
    obtain ⟨_, _, _, N0, h⟩ := hQ i x hx
    exact ⟨N0, fun N hN y hy => by rw [hx] at hy; cases hy; exact h N hN⟩
  have hwf : ∀ a ∈ L.map (·.1), wf a ∧ Fl (Enc.cells a) := by
    intro a ha
    obtain ⟨x, hx, rfl⟩ := List.mem_map.1 ha
    obtain ⟨i, hi⟩ := List.getElem?_of_mem hx
    have := hQ i x hi
    exact ⟨this.1, this.2.1⟩
  have hget : ∀ (j : Nat) (c : AV), (flat (L.map (·.1)))[j]? = some c → ∃ v, w.cell? ⟨b, off + j, none⟩ = some v ∧ ∀ N, N0 ≤ N → VR w (bigR N w) c v := by
    intro j c hj
    have hjl := (List.getElem?_eq_some_iff.1 hj).1
    rw [flat_len, List.length_map, hL] at hjl
    have hi : j / Enc.w α < len := Nat.div_lt_of_lt_mul (by rw [Nat.mul_comm]; exact hjl)
    have hr : j % Enc.w α < Enc.w α := Nat.mod_lt _ hw
    have hje : j = j / Enc.w α * Enc.w α + j % Enc.w α := by rw [Nat.mul_comm]; exact (Nat.div_add_mod _ _).symm
    obtain ⟨x, hx⟩ := hx _ hi
    have h1 := flat_get (L.map (·.1)) (i := j / Enc.w α) (a := x.1) (by rw [List.getElem?_map, hx]; rfl) hr
    rw [← hje, hj] at h1
    obtain ⟨_, _, h2, _⟩ := hQ _ x hx
    obtain ⟨_, h3, h4⟩ := World.cells?_some h2
    have h5 := h4 _ hr
    rw [add_plain, add_plain, Nat.add_assoc, ← hje] at h5
    refine ⟨x.2[j % Enc.w α]'(by omega), by rw [h5, List.getElem?_eq_getElem], fun N hN => ?_⟩
    exact (hN0 N hN _ hi x hx).2 _ _ _ h1.symm (List.getElem?_eq_getElem _)
  refine ⟨L.map (·.1), ⟨by rw [List.length_map, hL]; omega, fun a ha => (hwf a ha).1⟩, fl_one rfl, max N0 (off + len * Enc.w α), fun N hN => .one ?_⟩
  rw [List.length_map, hL]
  refine .sl false (Enc.w α) len _ b off cap (fun j => (w.cell? ⟨b, off + j, none⟩).getD default) ?_ ?_ ?_ hl ?_ ?_
  · intro c hcm
    unfold flat at hcm
    obtain ⟨l, hl, hcl⟩ := List.mem_flatten.1 hcm
    obtain ⟨a, ha, rfl⟩ := List.mem_map.1 hl
    exact (hwf a ha).2 c hcl
  · rw [flat_len, List.length_map, hL]
  · rw [flat_len, List.length_map, hL]
    unfold bigR
    rw [if_pos hb]; omega
  · intro j c hj
    obtain ⟨v, h1, _⟩ := hget j c hj
    rw [h1]; rfl
  · intro j c hj
    obtain ⟨v, h1, h2⟩ := hget j c hj
    simp only [h1, Option.getD_some]; exact h2 N (by omega)

theorem opens_sliceB {K : Nat} {e : TypeId} {α : Type} [Enc α] {wf : α → Prop} (ht : P.underlying t = some (.slice e)) (hc : P.cellsOf e = Enc.w α) (he : OpensB K P e (Enc.w α) (Enc.cells : α → List AV) wf) :
    OpensB (K + 1) P t 1 (fun l : List α => [.sl false (Enc.w α) l.length (flat l)]) fun l => l.length ≤ maxLen ∧ ∀ a ∈ l, wf a := by
  intro H enc w fuel cs x hk h
  rcases DataW.trod_slice ht h with ⟨rfl, _⟩ | ⟨a, len, cap, elems, rest, n, rfl, rfl, _, _, hl, hm, hlen, hel, _⟩
  · exact ⟨rfl, [], ⟨Nat.zero_le _, fun _ h => absurd h List.not_mem_nil⟩, fl_one rfl, 0, fun N _ => .one (.slnil _ _)⟩
  · refine ⟨rfl, slice_cell hl hm fun i hi => ?_⟩
    have h1 := hel i hi
    rw [hc, List.getElem?_eq_getElem (by omega), Option.bind_eq_some_iff] at h1
    obtain ⟨cs, h2, h3⟩ := h1
    obtain ⟨_, x, h4, h5, h6⟩ := he H enc w n cs _ (by omega) h3
    exact ⟨(x, cs), h4, h5, h2, h6⟩
theorem opens_sliceC {e : TypeId} {α : Type} [Enc α] {wf : α → Prop} (ht : P.underlying t = some (.slice e)) (hc : P.cellsOf e = Enc.w α) (he : Opens P e α wf) :
    OpensC P t 1 (fun l : List α => [.sl false (Enc.w α) l.length (flat l)]) fun l => l.length ≤ maxLen ∧ ∀ a ∈ l, wf a :=
  OpensB.all fun K => (opens_sliceB ht hc (OpensC.b he K)).le (Nat.le_succ K)

theorem fieldsAre_ex {L : List (TypeId × Nat)} (hs : fieldsAre P t L = true) : ∃ fs, P.underlying t = some (.struct fs) := by
  unfold fieldsAre at hs
  split at hs
  · rename_i fs ht; exact ⟨fs, ht⟩
  · cases hs
theorem okWide_slice {w : World} {e : TypeId} {b0 : Nat} {v : Value} (ht : P.underlying t = some (.slice e)) (hval : Value.okWide P w .any b0 t v) : ∀ cs, v ≠ .agg cs := by
  intro cs h
  subst h
  unfold Value.okWide Cell.okWide Cell.ok at hval
  rw [ht] at hval
  exact hval
/-- An argument that is a slice. -/
theorem open_row {H : Type} {enc : TypeId × Value → H} {w : World} {e : TypeId} {α : Type} [Enc α] {wf : α → Prop} {v : Value} {d : DataW H} {ps : List MemPlace}
    (ht : P.underlying t = some (.slice e)) (hc : P.cellsOf e = Enc.w α) (he : Opens P e α wf) (h : DataW.Trod enc P w 0 (fun _ => true) true t v d ps) (hv : ∀ cs, v ≠ .agg cs) :
    ∃ l : List α, (l.length ≤ maxLen ∧ ∀ a ∈ l, wf a) ∧ ∃ N0, ∀ N, N0 ≤ N → VR w (bigR N w) (.sl false (Enc.w α) l.length (flat l)) v := by
  obtain ⟨fuel, hf⟩ := h
  obtain ⟨_, l, hl, _, N0, hN⟩ := opens_sliceC ht hc he H enc w fuel _ _ hf
  have hcells : v.cells.toList = [v] := by
    cases v <;> first | rfl | exact absurd rfl (hv _)
  refine ⟨l, hl, N0, fun N h => ?_⟩
  have := hN N h
  rw [hcells] at this
  exact this.head
end
end Go.AB
end

section
set_option linter.unusedSimpArgs false
namespace Go.AB
open Go Go.ChangeShapes Go.WideShapes Go.ChangeAt Go.RowKit Go.Proofs.Ytpioecahefokmaa Go.Proofs

def wf_api_Span (x : api_Span) : Prop := (-9223372036854775808 ≤ x.From ∧ x.From ≤ 9223372036854775807) ∧ (-9223372036854775808 ≤ x.To ∧ x.To ≤ 9223372036854775807) ∧ True
theorem opens_80 : Opens Go.Proofs.Try.prog 80 api_Span wf_api_Span :=
  OpensC.map (opens_fields (L := [(3, 0), (3, 1)]) (by kernel_rfl) (by kernel_rfl) (opensF_cons (opens_int (P := Go.Proofs.Try.prog) (t := 3) (by kernel_rfl)) (by kernel_rfl) (opensF_cons (opens_int (P := Go.Proofs.Try.prog) (t := 3) (by kernel_rfl)) (by kernel_rfl) opensF_nil)))
    (fun p => ⟨p.1, p.2.1⟩) (fun p => by first | rfl | (simp only [cells_api_Value, cells_api_Span]; rfl)) (fun _ h => h)
theorem law35_RangesMissing_own : ownKnob Try.prog.godebug = none := by kernel_rfl
theorem law35_RangesMissing_laid : laidOutB Try.prog = true := by kernel_rfl
theorem law35_RangesMissing_ub : Try.prog.underlying 4 = some .bool := by kernel_rfl
set_option maxRecDepth 100000 in
theorem law35_RangesMissing_law {H : Type} {enc : TypeId × Value → H} {W : World} {base : Nat} {args : Array Value} {ds gs : List (DataW H)} {before : List MemPlace}
    (hval0 : ∀ (j : Nat) t v, Try.f10.params[j]? = some t → args[j]? = some v → Value.okWide Try.prog W .any base t v)
    (hW : DataW.Whole enc Try.prog Try.f10.params.toList Rows.rangesMissingSpec.vars false W args.toList ds gs before) :
    Calls Try.prog 10 args W fun e w' => e = .returned (.bool true) ∧ Below W.heap.size W w' := by
  obtain ⟨p, q, hA0, hV, rfl, hfz, hnd⟩ := hW
  have hval := hval0
  have hA : DataW.TrodAll enc Try.prog W 0 (fun _ => true) true Try.f10.params.toList args.toList ds p := hA0
  have hp : Try.f10.params = #[83, 70, 70] := by kernel_rfl
  rw [hp] at hA hval
  obtain ⟨v0, v1, v2, d0, d1, d2, p0, p1, p2, rfl, rfl, rfl, h0, h1, h2⟩ := trodAll_three hA
  obtain ⟨x0, w0, N0, k0⟩ := open_row (by kernel_rfl) (by kernel_rfl) (opens_u8 (P := Go.Proofs.Try.prog) (t := 5) (by kernel_rfl)) h0 (okWide_slice (e := 5) (by kernel_rfl) (hval 0 83 v0 rfl rfl))
  obtain ⟨x1, w1, N1, k1⟩ := open_row (by kernel_rfl) (by kernel_rfl) opens_80 h1 (okWide_slice (e := 80) (by kernel_rfl) (hval 1 70 v1 rfl rfl))
  obtain ⟨x2, w2, N2, k2⟩ := open_row (by kernel_rfl) (by kernel_rfl) opens_80 h2 (okWide_slice (e := 80) (by kernel_rfl) (hval 2 70 v2 rfl rfl))
  refine law_calls' (max N0 (max N1 N2)) ?_ (args3 (k0 _ (by omega)) (k1 _ (by omega)) (k2 _ (by omega)))
  exact (law35_RangesMissing_fe (fun x hx => (w1.2 x hx).2.1.2) (law35_RangesMissing_true (fun x hx => (w2.2 x hx).2.1.2))).app rfl

end Go.AB
namespace Go.Proofs.Ytpioecahefokmaa
open Go.ChangeShapes Go.WideShapes Go.ChangeAt Go.RowKit
set_option maxRecDepth 100000 in
theorem rangesMissing_lifted (os : Os) (started : os.Started) (H : Type) (enc : TypeId × Value → H) :
    ReturnsInHanded {} Try.checked os 10 .any (Rows.rangesMissingSpec.pre6 enc Try.prog Try.f10 Rows.rangesMissingRow.domain false) (Rows.rangesMissingSpec.post enc Try.prog Try.f10 false true false false) := by
  refine returnsInHanded_of_change (C := Try.checked) AB.law35_RangesMissing_own started (by kernel_rfl) Try.func10
    (ChangeSpec.witness6 (enc := enc) (C := Try.checked) false ⟨#[], #[.slice none 0 0, .slice none 0 0, .slice none 0 0], []⟩ 8 (by kernel_rfl) (by kernel_rfl) (by kernel_rfl) (by kernel_rfl)) ?_
  intro W base args ds gs before hval hW _ _
  exact AB.law_post rfl (by kernel_rfl) AB.law35_RangesMissing_ub AB.law35_RangesMissing_laid (of_decide_eq_true (by kernel_rfl)) (fun ds h => by
    match ds, h with
    | [_, _, _], _ => rfl) hW (AB.law35_RangesMissing_law hval hW)

theorem rangesMissing_holds : Rows.RangesMissingSaid :=
  OpenClaim.holds_of_wide 10 Try.f10 rfl rfl rfl rfl rfl rfl rfl ⟨rfl, rfl, rfl, rfl, rfl⟩ rfl rfl rfl rfl rfl (by kernel_rfl) Try.func10 (by kernel_rfl)
    (of_decide_eq_true (by kernel_rfl)) (by unfold Func.isWrapper; first | (rw [if_pos (by decide +kernel)]; kernel_rfl) | (rw [if_neg (by decide +kernel)]; exact ⟨rfl, rfl⟩))
    (fun os started H enc _ => rangesMissing_lifted os started H enc)
end Go.Proofs.Ytpioecahefokmaa
end
