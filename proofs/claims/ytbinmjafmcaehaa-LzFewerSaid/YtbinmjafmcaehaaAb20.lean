/- The abstract layer, part 20: operations that do not meet change places. -/
import Derived.Test.YtbinmjafmcaehaaAb19
namespace Go.AB
open Go

theorem mem_ixSlots {i : Nat} : ∀ {l : List IX}, IX.t i ∈ l → i ∈ ixSlots l
  | .t j :: r, h => by
    rcases List.mem_cons.1 h with h | h
    · injection h with h; subst h; exact List.mem_cons_self
    · exact List.mem_cons_of_mem _ (mem_ixSlots h)
  | .c a :: r, h => by
    rcases List.mem_cons.1 h with h | h
    · cases h
    · exact mem_ixSlots (l := r) h

section
variable {P : Program} {G G' : Gh} {n : Nat} {σ σ' : St} {a : Act} {w w' : World}

/-- Two states that an operation cannot tell apart. -/
structure Agr (o : IOper) (σ σ' : St) : Prop where
  xs : ∀ x ∈ opIX o.op, σ.x x = σ'.x x
  g : ∀ t want, o.g = some (t, want) → look σ.e t = look σ'.e t
  s : σ.s = σ'.s
  rd : ∀ p n, rd σ p n = rd σ' p n

theorem Agr.symm {o : IOper} (h : Agr o σ σ') : Agr o σ' σ := ⟨fun x hx => (h.xs x hx).symm, fun t w hg => (h.g t w hg).symm, h.s.symm, fun p n => (h.rd p n).symm⟩

theorem Agr.xg {o : IOper} (h : Agr o σ σ') (g : Bool) : ∀ x ∈ opIX o.op, xg g σ x = xg g σ' x := fun x hx => by unfold AB.xg; rw [h.xs x hx]

theorem Agr.qv {o : IOper} (h : Agr o σ σ') : qv o σ = qv o σ' := by
  have hp : ∀ g, pv o.op (AB.xg g σ) σ = pv o.op (AB.xg g σ') σ' := fun g => pv_congr (h.xg g) h.xs h.s h.rd
  unfold AB.qv
  cases hg : o.g with
  | none => exact hp true
  | some tw =>
    obtain ⟨t, want⟩ := tw
    show qvG o.op want σ (look σ.e t) = qvG o.op want σ' (look σ'.e t)
    rw [h.g t want hg]
    cases look σ'.e t <;> try rfl
    rename_i b
    show wPR _ (pv o.op (AB.xg _ σ) σ) = wPR _ (pv o.op (AB.xg _ σ') σ')
    rw [hp]

theorem Agr.qe {o : IOper} (h : Agr o σ σ') (g : Bool) : qe (AB.xg g σ) σ.s o.op = qe (AB.xg g σ') σ'.s o.op := by
  have hx := h.xg g
  have hs := h.s
  obtain ⟨d, op, gg⟩ := o
  cases op <;> first | rfl | skip
  case cvtBytes x => show bytesPR (AB.xg g σ x) = bytesPR (AB.xg g σ' x); rw [hx x (by simp [opIX])]
  case buildSl sz n z ps => show rowPR sz n (fill (AB.xg g σ) z ps) = rowPR sz n (fill (AB.xg g σ') z ps); rw [fill_congr ps z hx]
  case lookup kk z ok x k => show lookupV kk z ok σ.s (AB.xg g σ k) (AB.xg g σ x) = lookupV kk z ok σ'.s (AB.xg g σ' k) (AB.xg g σ' x); rw [hx x (by simp [opIX]), hx k (by simp [opIX]), hs]
  case movT x => show tupV (AB.xg g σ x) = tupV (AB.xg g σ' x); rw [hx x (by simp [opIX])]
  case cvtRow x => show rowV (AB.xg g σ x) = rowV (AB.xg g σ' x); rw [hx x (by simp [opIX])]

theorem Agr.qeO {o : IOper} (h : Agr o σ σ') : qeO o σ = qeO o σ' := by
  unfold AB.qeO
  cases hg : o.g with
  | none => exact h.qe true
  | some tw =>
    obtain ⟨t, want⟩ := tw
    show qeG o.op want σ (look σ.e t) = qeG o.op want σ' (look σ'.e t)
    rw [h.g t want hg]
    cases look σ'.e t <;> try rfl
    rename_i b
    show wPR _ (AB.qe (AB.xg _ σ) σ.s o.op) = wPR _ (AB.qe (AB.xg _ σ') σ'.s o.op)
    rw [h.qe]

theorem Y.agr {o : IOper} {v : AV} (hy : Y P σ o v) (h : Agr o σ σ') : Y P σ' o v := by
  cases hy with
  | pure _ _ hq => exact .pure o v (by rw [← h.qv]; exact hq)
  | mov d x hi =>
    have hx : σ.x x = σ'.x x := h.xs x (by simp [opIX])
    rw [hx] at hi ⊢
    exact .mov d x hi
  | call d f args as rs h1 h2 h3 => exact .call d f args as rs (by rw [← argsV_congr args (h.xg true)]; exact h1) h2 (by rw [← h.s]; exact h3)
  | callG d f args t want b rs h0 h2 h1 =>
    refine .callG d f args t want b rs (by rw [← h.g t want rfl]; exact h0) h2 fun hb => ?_
    obtain ⟨as, q1, q2⟩ := h1 hb
    exact ⟨as, by rw [← argsV_congr args (h.xg true)]; exact q1, by rw [← h.s]; exact q2⟩
  | eff _ _ hq => exact .eff o v (by rw [← h.qeO]; exact hq)

theorem look_dr (o : IOper) (i : Nat) : look (dr o σ).e i = if drained o i = true then view (look σ.e i) else look σ.e i := by
  unfold dr drained
  split
  · rename_i x hop
    cases x with
    | c a => simp only [hop]; rfl
    | t j =>
      simp only [hop]
      show look ((j, view (look σ.e j)) :: σ.e) i = _
      rw [look_cons]
      by_cases hj : j = i
      · subst hj; simp
      · simp [hj]
  · rename_i hop
    split
    · rename_i j hop'
      exact absurd hop' (hop (.t j))
    · simp

theorem look_step (o : IOper) (v : AV) (i : Nat) : look (step σ o v).e i = if o.dst = some i then v else if drained o i = true then view (look σ.e i) else look σ.e i := by
  unfold step
  rw [← look_dr]
  cases hd : o.dst with
  | none => simp [St.put, (lpReg_same (dr o σ) v none).1]
  | some d =>
    show look ((d, v) :: (lpReg (dr o σ) v (some d)).e) i = _
    rw [look_cons, (lpReg_same (dr o σ) v (some d)).1]
    simp

theorem dr_s (o : IOper) : (dr o σ).s = σ.s ∧ (dr o σ).lp = σ.lp := by
  unfold dr
  split
  · rename_i x _
    cases x <;> exact ⟨rfl, rfl⟩
  · exact ⟨rfl, rfl⟩

theorem step_s (o : IOper) (v : AV) : (step σ o v).s = σ.s := by
  unfold step
  have : ∀ (τ : St) (d : Option Nat) (x : AV), (τ.put d x).s = τ.s := fun τ d x => by cases d <;> rfl
  rw [this, (lpReg_same (dr o σ) v o.dst).2.1, (dr_s o).1]

theorem notLoc_view (av : AV) : notLoc (view av) = notLoc av := by cases av <;> rfl
theorem rdLoc_view (av : AV) (n off : Nat) : rdLoc n off (view av) = rdLoc n off av := by cases av <;> rfl

theorem rdLoc_no {av : AV} (h : notLoc av = true) (n off : Nat) : rdLoc n off av = none := by cases av <;> first | rfl | (simp [notLoc] at h)

theorem rd_step {o : IOper} {v : AV} (hf : slotFree σ o.dst = true) (hv : notLoc v = true) : ∀ p n, rd (step σ o v) p n = rd σ p n := by
  intro p n
  cases p <;> try rfl
  · rename_i b off
    show rdSO n off ((step σ o v).s b) = rdSO n off (σ.s b)
    rw [step_s]
  · rename_i d off
    show rdLoc n off (look (step σ o v).e d) = rdLoc n off (look σ.e d)
    rw [look_step]
    by_cases hd : o.dst = some d
    · rw [if_pos hd, rdLoc_no hv]
      rw [hd] at hf
      exact (rdLoc_no hf n off).symm
    · rw [if_neg hd]
      split
      · exact rdLoc_view ..
      · rfl

theorem agr_step {o y : IOper} {v : AV} (hf : slotFree σ y.dst = true) (hv : notLoc v = true) (hn : notIn y.dst (slots o) = true) (hdr : noDr y o = true) : Agr o σ (step σ y v) := by
  have key : ∀ i, i ∈ slots o → look (step σ y v).e i = look σ.e i := by
    intro i hi
    have h1 : ¬ drained y i = true := by
      have := List.all_eq_true.1 hdr i hi
      simpa using this
    rw [look_step, if_neg, if_neg h1]
    intro hd
    rw [hd] at hn
    simp [notIn] at hn
    exact hn hi
  refine ⟨fun x hx => ?_, fun t want hg => ?_, (step_s y v).symm, fun p n => (rd_step hf hv p n).symm⟩
  · cases x with
    | c a => rfl
    | t i => exact (key i (List.mem_append_right _ (mem_ixSlots hx))).symm
  · exact (key t (List.mem_append_left _ (by rw [hg]; exact List.mem_cons_self))).symm

/-- States that say the same. -/
structure Eqv (σ σ' : St) : Prop where
  e : ∀ i, look σ.e i = look σ'.e i
  lp : ∀ x, x ∈ σ.lp ↔ x ∈ σ'.lp
  s : σ.s = σ'.s

theorem Eqv.refl (σ : St) : Eqv σ σ := ⟨fun _ => rfl, fun _ => Iff.rfl, rfl⟩
theorem Eqv.symm (h : Eqv σ σ') : Eqv σ' σ := ⟨fun i => (h.e i).symm, fun x => (h.lp x).symm, h.s.symm⟩
theorem Eqv.trans {σ₃ : St} (h : Eqv σ σ') (k : Eqv σ' σ₃) : Eqv σ σ₃ := ⟨fun i => (h.e i).trans (k.e i), fun x => (h.lp x).trans (k.lp x), h.s.trans k.s⟩

theorem Eqv.rd (h : Eqv σ σ') : ∀ p n, AB.rd σ p n = AB.rd σ' p n := by
  intro p n
  cases p <;> try rfl
  · rename_i b off
    show rdSO n off (σ.s b) = rdSO n off (σ'.s b)
    rw [h.s]
  · rename_i d off
    show rdLoc n off (look σ.e d) = rdLoc n off (look σ'.e d)
    rw [h.e]

theorem Eqv.agr (h : Eqv σ σ') (o : IOper) : Agr o σ σ' := ⟨fun x _ => by cases x with
  | c a => rfl
  | t i => exact h.e i, fun t _ _ => h.e t, h.s, h.rd⟩

theorem Eqv.free (h : Eqv σ σ') (d : Option Nat) : slotFree σ d = slotFree σ' d := by
  cases d with
  | none => rfl
  | some d => show notLoc (look σ.e d) = notLoc (look σ'.e d); rw [h.e]

theorem lpReg_lp : ∀ (v : AV) (d : Option Nat) (x : Nat × Nat), x ∈ (lpReg σ v d).lp ↔ (x ∈ σ.lp ∨ ∃ i, d = some i ∧ x.1 = i ∧ holdsLp v x.2)
  | .lp t off, some i, (x1, x2) => by
    show (x1, x2) ∈ (i, t) :: σ.lp ↔ _
    rw [List.mem_cons]
    constructor
    · rintro (h | h)
      · injection h with h1 h2; exact .inr ⟨i, rfl, h1, h2.symm⟩
      · exact .inl h
    · rintro (h | ⟨j, h1, h2, h3⟩)
      · exact .inr h
      · injection h1 with h1
        have h3' : t = x2 := h3
        have h2' : x1 = j := h2
        subst h1; subst h2'; subst h3'
        exact .inl rfl
  | .lp t off, none, x => ⟨fun h => .inl h, fun h => h.elim id fun ⟨_, h1, _⟩ => by cases h1⟩
  | .when _ v, d, x => lpReg_lp v d x
  | .undef, _, _ | .bool _, _, _ | .int _ _, _, _ | .str _, _, _ | .nilp, _, _ | .ref _ _, _, _ | .sp _, _, _ | .loc _, _, _ | .sl _ _ _ _, _, _ | .arr _ _ _ _, _, _ | .agg _, _, _ | .tup _, _, _ | .fn _ _ _, _, _ | .nilf, _, _ | .mp _, _, _ | .nilm, _, _ =>
    ⟨fun h => .inl h, fun h => h.elim id fun ⟨_, _, _, h3⟩ => h3.elim⟩

theorem step_lp (o : IOper) (v : AV) (x : Nat × Nat) : x ∈ (step σ o v).lp ↔ (x ∈ σ.lp ∨ ∃ i, o.dst = some i ∧ x.1 = i ∧ holdsLp v x.2) := by
  have h1 : (step σ o v).lp = (lpReg (dr o σ) v o.dst).lp := by unfold step; cases o.dst <;> rfl
  rw [h1, ← (dr_s (σ := σ) o).2]
  exact lpReg_lp v o.dst x

theorem Inv.eqv (h : Inv G n σ a w) (k : Eqv σ σ') : Inv G n σ' a w :=
  ⟨h.good, by rw [← k.s]; exact h.store, h.size, fun i v hv => by
    rw [← k.e i]
    exact ValS.frame (fun _ _ hv => hv) (fun b _ => ⟨rfl, rfl, rfl⟩) (fun _ _ _ _ hc => ⟨hc, rfl, rfl⟩) _ _ (fun t _ cs hcs => ⟨cs, by rw [k.e]; exact hcs, rfl⟩) (h.slots i v hv),
    fun i hi => by rw [← k.e i]; exact h.dom i hi, fun i t ht => (k.lp _).1 (h.lps i t (by rw [k.e]; exact ht)), h.def0⟩

theorem Eqv.step (h : Eqv σ σ') (o : IOper) (v : AV) : Eqv (AB.step σ o v) (AB.step σ' o v) :=
  ⟨fun i => by rw [look_step, look_step, h.e], fun x => by rw [step_lp, step_lp, h.lp], by rw [step_s, step_s, h.s]⟩

theorem step_comm {x y : IOper} {u v : AV} (hne : ∀ i j, x.dst = some i → y.dst = some j → i ≠ j) (hxy : ∀ i, y.dst = some i → drained x i = false) (hyx : ∀ i, x.dst = some i → drained y i = false) : Eqv (step (step σ x u) y v) (step (step σ y v) x u) :=
  ⟨fun i => by
    rw [look_step, look_step, look_step, look_step]
    by_cases h1 : y.dst = some i
    · by_cases h2 : x.dst = some i
      · exact absurd rfl (hne i i h2 h1)
      · simp [h1, h2, hxy i h1]
    · by_cases h2 : x.dst = some i
      · simp [h1, h2, hyx i h2]
      · simp only [h1, h2, if_false]
        by_cases h3 : drained x i = true <;> by_cases h4 : drained y i = true <;> simp [h3, h4], fun z => by
    rw [step_lp, step_lp, step_lp, step_lp]
    constructor
    · rintro ((h | h) | h)
      · exact .inl (.inl h)
      · exact .inr h
      · exact .inl (.inr h)
    · rintro ((h | h) | h)
      · exact .inl (.inl h)
      · exact .inr h
      · exact .inl (.inr h), by rw [step_s, step_s, step_s, step_s]⟩
end
end Go.AB
