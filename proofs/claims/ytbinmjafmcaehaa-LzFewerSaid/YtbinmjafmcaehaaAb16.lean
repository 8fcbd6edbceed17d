/- The abstract layer, part 16: regions in their order, control, functions. -/
import Derived.Test.YtbinmjafmcaehaaAb15n
import Derived.Tactics
import Derived.Scope
namespace Go.AB
open Go

section
variable {P : Program} {G G' : Gh} {n : Nat} {σ : St} {a : Act} {w w' : World}

theorem undef_eq : (undef : Value) = .tuple #[] := rfl

theorem holdsLp_isV {av : AV} (h : isV av = true) (t : Nat) : ¬ holdsLp av t := not_holdsLp h t

/-- What only computes, put into its slot. -/
theorem Inv.putN (h : Inv G n σ a w) {d : Option Nat} (hd : dstOK n d = true) {av : AV} {v : Value} (hv : NR G w σ a av v) : Inv G n ((lpReg σ av d).put d av) (a.put d v) w := by
  have hd' : ∀ i, d = some i → i < n := fun i hi => by subst hi; simpa [dstOK] using hd
  by_cases hlp : ∃ t off, av = .lp t off
  · obtain ⟨t, off, rfl⟩ := hlp
    cases d with
    | none => exact h
    | some i =>
      obtain ⟨b, hv1, hv2⟩ := hv
      refine h.put (s' := σ.s) (lp' := (i, t) :: σ.lp) (some i) hd' (.lp t off) v h.good (Pres.refl G w) h.store (fun x hx => List.mem_cons_of_mem _ hx) (fun j t' hj ht => ?_) (fun j t' _ ⟨cs, hcs⟩ => by cases hcs)
        (fun _ _ _ _ => ⟨rfl, rfl, rfl⟩) (fun _ _ _ _ _ _ hcc => ⟨hcc, rfl, rfl⟩) (fun j hj => ?_)
      · injection hj with hj; subst hj
        have : t = t' := ht
        subst this
        exact List.mem_cons_self
      · injection hj with hj; subst hj
        refine ⟨b, hv1, fun cs hcs => ?_⟩
        by_cases hit : i = t
        · subst hit; simp [St.put, look_cons] at hcs
        · simp only [St.put, look_cons, hit, if_false] at hcs
          simpa [Act.put, Array.getElem?_setIfInBounds_ne hit] using hv2 cs hcs
  · have hnr : isV av = true ∧ VR w G.R av v ∧ view av = av := by
      cases av <;> first | exact hv | exact (hlp ⟨_, _, rfl⟩).elim
    have hl : lpReg σ av d = σ := by
      cases av <;> first | rfl | exact (hlp ⟨_, _, rfl⟩).elim | exact absurd hnr.1 (by simp [isV])
    rw [hl]
    have := h.put (s' := σ.s) (lp' := σ.lp) d hd' av v h.good (Pres.refl G w) h.store (fun _ hx => hx) (fun i t _ ht => (not_holdsLp hnr.1 t ht).elim) (fun i t _ ⟨cs, hcs⟩ => (not_loc hnr.1 cs hcs).elim)
      (fun _ _ _ _ => ⟨rfl, rfl, rfl⟩) (fun _ _ _ _ _ _ hcc => ⟨hcc, rfl, rfl⟩) (fun i hi => by
        rw [ValS.of_isV hnr.1]
        refine ⟨hnr.2.1, ?_⟩
        rw [← hnr.2.2]
        exact OwnR.view ..)
    cases d <;> exact this

theorem Inv.putSkip (h : Inv G n σ a w) {d : Option Nat} (hd : dstOK n d = true) : Inv G n (σ.put d (.tup [])) (a.put d undef) w := by
  have := h.put (s' := σ.s) (lp' := σ.lp) d (fun i hi => by subst hi; simpa [dstOK] using hd) (.tup []) undef h.good (Pres.refl G w) h.store (fun _ hx => hx) (fun i t _ ht => ht.elim) (fun i t _ ⟨cs, hcs⟩ => by cases hcs)
      (fun _ _ _ _ => ⟨rfl, rfl, rfl⟩) (fun _ _ _ _ _ _ hcc => ⟨hcc, rfl, rfl⟩) (fun i hi => ⟨#[], rfl, rfl, fun j x y hx => by simp at hx⟩)
  cases d <;> exact this

theorem owp_sound (h : Inv G n σ a w) {op : Op} {ty : TypeId} {o : IOp} {d : Option Nat} {K : St → Prop} (hd : dstOK n d = true) (hc : chkOp P op ty o = true) (hw : owp P o d σ K) : Eff P G n w a op ty d K := by
  unfold owp at hw
  cases hp : pv o (xg true σ) σ with
  | tot av =>
    rw [hp] at hw
    obtain ⟨v, hr, hnr⟩ := pv_sound h hc (av := av) (.inl hp)
    exact fun pos after g next Q hn => wp_value (hr d pos after g) (hn G _ _ _ (h.putN hd hnr) (Pres.refl G w) hw)
  | prt c av =>
    rw [hp] at hw
    obtain ⟨v, hr, hnr⟩ := pv_sound h hc (av := av) (.inr ⟨c, hp, hw.1⟩)
    exact fun pos after g next Q hn => wp_value (hr d pos after g) (hn G _ _ _ (h.putN hd hnr) (Pres.refl G w) hw.2)
  | no =>
    rw [hp] at hw
    have hw' : iwp P o d σ K := hw
    cases o with
    | mov tr x => exact eff_mov h hd hc hw'
    | allocL z => exact (eff_alloc h hd).1 hc hw'
    | allocS z => exact (eff_alloc h hd).2 hc hw'
    | boxL m x => exact (eff_box h hd).1 hc hw'
    | boxS m x => exact (eff_box h hd).2 hc hw'
    | buildSl sz m z ps => exact eff_buildSl h hd hc hw'
    | store m p v => exact eff_store h hd hc hw'
    | append sz by' x y => exact eff_append h hd hc hw'
    | cvtStr x => exact eff_cvtStr h hd hc hw'
    | cvtBytes x => exact eff_cvtBytes h hd hc hw'
    | call f args => exact eff_call h hd hc hw'
    | makeSl sz by' z l c => exact eff_makeSl h hd hc hw'
    | makeOw sz by' c => exact eff_makeOw h hd hc hw'
    | makeMap => exact eff_makeMap h hd hc hw'
    | callv x args => exact eff_callv h hd hc hw'
    | lookup kk z ok x k => exact eff_lookup h hd hc hw'
    | mapUpdate kk x k v => exact eff_mapUpdate h hd hc hw'
    | cvtRow x => exact eff_cvtRow h hd hc hw'
    | movT x => exact eff_movT h hd hc hw'
    | _ => exact hw'.elim

/-- One operation of a region. -/
def oneP (P : Program) (ops : Array Oper) (o : Oper) (a : Act) (w : World) (next : Act → World → Prop) (Q : Exit → Act → World → Prop) : Prop :=
  if Region.wanted o (yielded ops a.tmps) then o.wp P a w next Q ∨ (o.asks P a w ∧ LetsOut Q) else next (a.put o.dst undef) w

theorem oneP_run {ops : Array Oper} {o : Oper} {next : Act → World → Prop} {Q : Exit → Act → World → Prop} (hw : Region.wanted o (yielded ops a.tmps) = true) (h : o.wp P a w next Q) : oneP P ops o a w next Q := by
  unfold oneP; rw [if_pos hw]; exact .inl h
theorem oneP_skip {ops : Array Oper} {o : Oper} {next : Act → World → Prop} {Q : Exit → Act → World → Prop} (hw : Region.wanted o (yielded ops a.tmps) = false) (h : next (a.put o.dst undef) w) : oneP P ops o a w next Q := by
  unfold oneP; rw [if_neg (by simp [hw])]; exact h

theorem dropWhen (h : Inv G n σ a w) {d : Option Nat} (hd : dstOK n d = true) (av : AV) (hl : ∀ t, holdsLp av t → ∀ i, d = some i → (i, t) ∈ σ.lp) : Inv G n (σ.put d (.when false av)) (a.put d undef) w := by
  have := h.put (s' := σ.s) (lp' := σ.lp) d (fun i hi => by subst hi; simpa [dstOK] using hd) (.when false av) undef h.good (Pres.refl G w) h.store (fun _ hx => hx) (fun i t hi ht => hl t ht i hi) (fun i t _ ⟨cs, hcs⟩ => by cases hcs)
      (fun _ _ _ _ => ⟨rfl, rfl, rfl⟩) (fun _ _ _ _ _ _ hcc => ⟨hcc, rfl, rfl⟩) (fun i hi => ⟨fun hh => Bool.noConfusion hh, fun _ => rfl⟩)
  cases d <;> exact this

theorem lpReg_same (σ : St) : ∀ (av : AV) (d : Option Nat), (lpReg σ av d).e = σ.e ∧ (lpReg σ av d).s = σ.s ∧ ∀ x ∈ σ.lp, x ∈ (lpReg σ av d).lp
  | .lp t _, some i => ⟨rfl, rfl, fun x hx => List.mem_cons_of_mem _ hx⟩
  | .lp t _, none => ⟨rfl, rfl, fun _ hx => hx⟩
  | .when _ av, d => lpReg_same σ av d
  | .undef, _ | .bool _, _ | .int _ _, _ | .str _, _ | .nilp, _ | .ref _ _, _ | .sp _, _ | .loc _, _ | .sl _ _ _ _, _ | .arr _ _ _ _, _ | .agg _, _ | .tup _, _ | .fn _ _ _, _ | .nilf, _ | .mp _, _ | .nilm, _ => ⟨rfl, rfl, fun _ hx => hx⟩

theorem lpMore (h : Inv G n σ a w) (av : AV) (d : Option Nat) : Inv G n (lpReg σ av d) a w := by
  obtain ⟨e1, e2, e3⟩ := lpReg_same σ av d
  exact ⟨h.good, by rw [e2]; exact h.store, h.size, fun i v hv => by rw [e1]; exact h.slots i v hv, fun i hi => by rw [e1]; exact h.dom i hi, fun i t ht => e3 _ (h.lps i t (by rw [e1] at ht; exact ht)), h.def0⟩

theorem lpReg_mem : ∀ (av : AV) (d : Option Nat) (t : Nat), holdsLp av t → ∀ i, d = some i → (i, t) ∈ (lpReg σ av d).lp
  | .lp t' off, _, t, ht, i, rfl => by have : t' = t := ht; subst this; exact List.mem_cons_self
  | .when _ av, d, t, ht, i, hi => lpReg_mem av d t ht i hi
  | .undef, _, _, ht, _, _ | .bool _, _, _, ht, _, _ | .int _ _, _, _, ht, _, _ | .str _, _, _, ht, _, _ | .nilp, _, _, ht, _, _ | .ref _ _, _, _, ht, _, _ | .sp _, _, _, ht, _, _ | .loc _, _, _, ht, _, _ | .sl _ _ _ _, _, _, ht, _, _
  | .arr _ _ _ _, _, _, ht, _, _ | .agg _, _, _, ht, _, _ | .tup _, _, _, ht, _, _ | .fn _ _ _, _, _, ht, _, _ | .nilf, _, _, ht, _, _ | .mp _, _, _, ht, _, _ | .nilm, _, _, ht, _, _ => ht.elim

/-- The value under a condition that holds. -/
theorem Inv.whenTrue {d : Option Nat} {av : AV} (h : Inv G n (σ.put d av) a w) (hd : dstOK n d = true) : Inv G n (σ.put d (.when true av)) a w := by
  cases d with
  | none => exact h
  | some i =>
  have hlk : ∀ k, k ≠ i → look (σ.put (some i) (.when true av)).e k = look (σ.put (some i) av).e k := fun k hk => by simp [St.put, look_cons, Ne.symm hk]
  have e1 : look (σ.put (some i) av).e i = av := by simp [St.put, look_cons]
  have e2 : look (σ.put (some i) (.when true av)).e i = .when true av := by simp [St.put, look_cons]
  have hloc : ∀ d' cs, look (σ.put (some i) (.when true av)).e d' = .loc cs → look (σ.put (some i) av).e d' = .loc cs := by
    intro d' cs hcs
    by_cases hd' : d' = i
    · subst hd'; rw [e2] at hcs; cases hcs
    · rw [hlk d' hd'] at hcs; exact hcs
  have fr : ∀ k av' u, ValS G w (σ.put (some i) av).e a.tmps k av' u → ValS G w (σ.put (some i) (.when true av)).e a.tmps k av' u := fun k av' u hv =>
    ValS.frame (fun _ _ hv => hv) (fun b _ => ⟨rfl, rfl, rfl⟩) (fun _ _ _ _ hc => ⟨hc, rfl, rfl⟩) _ _ (fun d' _ cs hcs => ⟨cs, hloc d' cs hcs, rfl⟩) hv
  refine ⟨h.good, h.store, h.size, fun k u hu => ?_, fun k hk => ?_, fun k t ht => ?_, h.def0⟩
  · have hs := h.slots k u hu
    by_cases hk : k = i
    · subst hk
      rw [e1] at hs
      rw [e2]
      exact ⟨fun _ => fr _ _ _ hs, fun hh => Bool.noConfusion hh⟩
    · rw [hlk k hk]; exact fr _ _ _ hs
  · have : k ≠ i := by
      have : i < n := by simpa [dstOK] using hd
      omega
    rw [hlk k this]; exact h.dom k hk
  · by_cases hk : k = i
    · subst hk
      rw [e2] at ht
      exact h.lps k t (by rw [e1]; exact ht)
    · rw [hlk k hk] at ht; exact h.lps k t ht

theorem yielded_at {ops : Array Oper} {tmps : Array Value} {j t : Nat} (h : (ops[j]?).bind (·.dst) = some t) : yielded ops tmps j = (match tmps[t]? with | some (.bool b) => some b | _ => none) := by
  unfold yielded
  rw [h]
  rfl

/-- What an operation with a guard sees of it. -/
theorem guard_bool {ops : Array Oper} {o : Oper} {j t : Nat} {want b : Bool} (hg : o.guard = some (j, want)) (ht : (ops[j]?).bind (·.dst) = some t) (hv : a.tmps[t]? = some (.bool b)) : Region.wanted o (yielded ops a.tmps) = (b == want) := by
  unfold Region.wanted
  rw [hg]
  simp only [yielded_at ht, hv]
  cases b <;> cases want <;> rfl

theorem slot_at (h : Inv G n σ a w) {t : Nat} (hl : look σ.e t ≠ .undef) : ∃ v, a.tmps[t]? = some v ∧ ValS G w σ.e a.tmps t (look σ.e t) v := by
  have hlt : t < a.tmps.size := by rw [h.size]; exact h.lt_of hl
  exact ⟨_, eval_some hlt, h.slots t _ (eval_some hlt)⟩

theorem gwp_sound (h : Inv G n σ a w) {ops : Array Oper} {o : Oper} {o' : IOper} {K : St → Prop} (hc : chkOper P n ops o o' = true) (hw : gwp P o' σ K) {next : Act → World → Prop} {Q : Exit → Act → World → Prop}
    (hn : ∀ G' σ' a' w', Inv G' n σ' a' w' → Pres G w G' w' → K σ' → next a' w') : oneP P ops o a w next Q := by
  obtain ⟨dst, op, ty, pos, after, g⟩ := o
  obtain ⟨d, io, ig⟩ := o'
  simp only [chkOper, Bool.and_eq_true, beq_iff_eq] at hc
  obtain ⟨⟨⟨rfl, hd⟩, hcg⟩, hcop⟩ := hc
  have runs : ∀ {σ₁ : St}, Inv G n σ₁ a w → owp P io dst σ₁ K → (⟨dst, op, ty, pos, after, g⟩ : Oper).wp P a w next Q := fun h1 ho => owp_sound h1 hd hcop ho pos after g next Q hn
  cases ig with
  | none =>
    cases g with
    | some g => simp [chkG] at hcg
    | none => exact oneP_run rfl (runs h hw)
  | some tw =>
    obtain ⟨t, want⟩ := tw
    cases g with
    | none => simp [chkG] at hcg
    | some jw =>
    obtain ⟨j, want'⟩ := jw
    simp only [chkG, Bool.and_eq_true, beq_iff_eq] at hcg
    obtain ⟨rfl, ht⟩ := hcg
    have hw' : gsel P io dst t want' σ K (look σ.e t) := hw
    have skip : ∀ {σ₁ : St}, Inv G n σ₁ a w → K (σ₁.put dst (.tup [])) → next (a.put dst undef) w := fun h1 hk => hn G _ _ _ (h1.putSkip hd) (Pres.refl G w) hk
    cases hlk : look σ.e t with
    | bool b =>
      rw [hlk] at hw'
      obtain ⟨v, hv1, hv2⟩ := slot_at h (t := t) (by rw [hlk]; simp)
      rw [hlk] at hv2
      have := VR.inv_bool hv2.1
      subst this
      have hwt := guard_bool (o := ⟨dst, op, ty, pos, after, some (j, want')⟩) rfl ht hv1
      have hx : nxg P (b == want') io σ dst K (pv io (xg (b == want') σ) σ) := hw'
      cases hb : (b == want') with
      | true =>
        rw [hb] at hx hwt
        refine oneP_run hwt ?_
        cases hp : pv io (xg true σ) σ with
        | tot av =>
          rw [hp] at hx
          obtain ⟨v, hr, hnr⟩ := pv_sound h hcop (av := av) (.inl hp)
          refine wp_value (hr _ _ _ _) (hn G _ _ _ ((h.putN hd hnr).whenTrue hd) (Pres.refl G w) hx)
        | prt c av =>
          rw [hp] at hx
          obtain ⟨v, hr, hnr⟩ := pv_sound h hcop (av := av) (.inr ⟨c, hp, hx.1 rfl⟩)
          refine wp_value (hr _ _ _ _) (hn G _ _ _ ((h.putN hd hnr).whenTrue hd) (Pres.refl G w) hx.2)
        | no =>
          rw [hp] at hx
          exact runs h (hx.1 rfl)
      | false =>
        rw [hb] at hx hwt
        refine oneP_skip hwt ?_
        cases hp : pv io (xg false σ) σ with
        | tot av =>
          rw [hp] at hx
          exact hn G _ _ _ (dropWhen (lpMore h av dst) hd av (fun t' ht' i hi => lpReg_mem av dst t' ht' i hi)) (Pres.refl G w) hx
        | prt c av =>
          rw [hp] at hx
          exact hn G _ _ _ (dropWhen (lpMore h av dst) hd av (fun t' ht' i hi => lpReg_mem av dst t' ht' i hi)) (Pres.refl G w) hx.2
        | no =>
          rw [hp] at hx
          exact skip h (hx.2 rfl)
    | «when» b' g =>
      rw [hlk] at hw'
      obtain ⟨v, hv1, hv2⟩ := slot_at h (t := t) (by rw [hlk]; simp)
      rw [hlk] at hv2
      cases g with
      | bool b =>
        obtain ⟨k1, k2, k3⟩ := hw'
        have hlt := h.lt_of (i := t) (by rw [hlk]; simp)
        cases b' with
        | true =>
          have hvb := hv2.1 rfl
          have := VR.inv_bool hvb.1
          subst this
          have hwt := guard_bool (o := ⟨dst, op, ty, pos, after, some (j, want')⟩) rfl ht hv1
          cases hb : (b == want') with
          | true =>
            rw [hb] at hwt
            refine oneP_run hwt (runs (h.reabs t hlt (.bool b) (fun _ hh => hh.elim) (fun _ e => by cases e) (fun u hu => ?_)) (k1 rfl hb))
            rw [hv1] at hu; injection hu with hu; subst hu
            exact ⟨.bool _, trivial⟩
          | false =>
            rw [hb] at hwt
            exact oneP_skip hwt (skip h (k2 rfl hb))
        | false =>
          have := hv2.2 rfl
          subst this
          have hwt : Region.wanted ⟨dst, op, ty, pos, after, some (j, want')⟩ (yielded ops a.tmps) = false := by
            unfold Region.wanted
            simp only [yielded_at ht, hv1]
            rfl
          refine oneP_skip hwt (skip (h.reabs t hlt (.tup []) (fun _ hh => hh.elim) (fun _ e => by cases e) (fun u hu => ?_)) (k3 rfl))
          rw [hv1] at hu; injection hu with hu; subst hu
          exact ⟨#[], rfl, rfl, fun j x y hx => by simp at hx⟩
      | _ => exact hw'.elim
    | tup vs =>
      rw [hlk] at hw'
      cases vs with
      | cons _ _ => exact hw'.elim
      | nil =>
        obtain ⟨v, hv1, hv2⟩ := slot_at h (t := t) (by rw [hlk]; simp)
        rw [hlk] at hv2
        obtain ⟨ys, rfl, _⟩ := hv2
        have hwt : Region.wanted ⟨dst, op, ty, pos, after, some (j, want')⟩ (yielded ops a.tmps) = false := by
          unfold Region.wanted
          simp only [yielded_at ht, hv1]
          rfl
        exact oneP_skip hwt (skip h hw')
    | _ => rw [hlk] at hw'; exact hw'.elim
end
end Go.AB
