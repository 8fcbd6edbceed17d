/- A part of the proof: Ab16, Ab17, Ab18, Ab19, Ab20, Ab21, Ab22, Ab22t, Ab22b. -/
import Derived.Test.YtedaacdjoddnaaaGreatDoorC2
import Derived.Tactics
import Derived.Scope
import Derived.LoopN
import Derived.ScopeJumps
set_option linter.unusedSimpArgs false
set_option linter.unusedVariables false
section
namespace Go.AB
open Go
section
variable {P : Program} {G G' : Gh} {n : Nat} {D : List Deferred} {σ : St} {a : Act} {w w' : World}
theorem Inv.putN (h : Inv G n D σ a w) {d : Option Nat} (hd : dstOK n d = true) {av : AV} {v : Value} (hv : NR G w σ a av v) : Inv G n D ((lpReg σ av d).put d av) (a.put d v) w := by
  have hd' : ∀ i, d = some i → i < n := fun i hi => by subst hi; simpa [dstOK] using hd
  by_cases hlp : ∃ t off, av = .lp t off
  · obtain ⟨t, off, rfl⟩ := hlp
    cases d with
    | none => exact h
    | some i =>
      obtain ⟨b, hv1, hv2⟩ := hv
      refine h.put (s' := σ.s) (lp' := (i, t) :: σ.lp) (some i) hd' (.lp t off) v h.good (Pres.refl G w) h.store (fun x hx => List.mem_cons_of_mem _ hx) (fun j t' hj ht => ?_) (fun j t' _ ⟨cs, hcs⟩ => by cases hcs)
        (fun _ _ _ _ => ⟨rfl, rfl, rfl⟩) (fun _ _ _ _ _ _ hcc => ⟨hcc, rfl, rfl⟩) (fun j hj => ?_)
      · injection hj with hj; subst hj
        have : t = t' := ht
        subst this
        exact List.mem_cons_self
      · injection hj with hj; subst hj
        refine ⟨b, hv1, fun cs hcs => ?_⟩
        by_cases hit : i = t
        · subst hit; simp [St.put, look_cons] at hcs
        · simp only [St.put, look_cons, hit, if_false] at hcs
          simpa [Act.put, Array.getElem?_setIfInBounds_ne hit] using hv2 cs hcs
  · have hnr : isV av = true ∧ VR w G.R av v ∧ view av = av := by
      cases av <;> first | exact hv | exact (hlp ⟨_, _, rfl⟩).elim
    have hl : lpReg σ av d = σ := by
      cases av <;> first | rfl | exact (hlp ⟨_, _, rfl⟩).elim | exact absurd hnr.1 (by simp [isV])
    rw [hl]
    have := h.put (s' := σ.s) (lp' := σ.lp) d hd' av v h.good (Pres.refl G w) h.store (fun _ hx => hx) (fun i t _ ht => (not_holdsLp hnr.1 t ht).elim) (fun i t _ ⟨cs, hcs⟩ => (not_loc hnr.1 cs hcs).elim)
      (fun _ _ _ _ => ⟨rfl, rfl, rfl⟩) (fun _ _ _ _ _ _ hcc => ⟨hcc, rfl, rfl⟩) (fun i hi => by
        rw [ValS.of_isV hnr.1]
        refine ⟨hnr.2.1, ?_⟩
        rw [← hnr.2.2]
        exact OwnR.view ..)
    cases d <;> exact this
theorem Inv.putSkip (h : Inv G n D σ a w) {d : Option Nat} (hd : dstOK n d = true) : Inv G n D (σ.put d (.tup [])) (a.put d undef) w := by
 have := h.put (s' := σ.s) (lp' := σ.lp) d (fun i hi => by subst hi; simpa [dstOK] using hd) (.tup []) undef h.good (Pres.refl G w) h.store (fun _ hx => hx) (fun i t _ ht => ht.elim) (fun i t _ ⟨cs, hcs⟩ => by cases hcs)
   (fun _ _ _ _ => ⟨rfl, rfl, rfl⟩) (fun _ _ _ _ _ _ hcc => ⟨hcc, rfl, rfl⟩) (fun i hi => ⟨#[], rfl, rfl, fun j x y hx => by simp at hx⟩)
 cases d <;> exact this
theorem eff_callX (h : Inv G n D σ a w) {op : Op} {ty : TypeId} {f : Nat} {x : IX} {d : Option Nat} {K : St → Prop} (hd : dstOK n d = true) (hc : chkOp P op ty (.callX f x) = true) (hw : iwp P (.callX f x) d σ K) : Eff P G n D w a op ty d K := by
  cases op <;> first | (simp [chkOp] at hc; done) | skip
  rename_i c
  obtain ⟨callee, ys, ats⟩ := c
  simp only [chkOp] at hc
  split at hc <;> try (cases hc; done)
  rename_i g
  simp only [Bool.and_eq_true, beq_iff_eq] at hc
  obtain ⟨rfl, hxs⟩ := hc
  obtain ⟨hi, hid, hk⟩ := (show callXW P f σ d K (σ.x x) from hw)
  obtain ⟨l⟩ := ys
  match l, hxs with
  | [y], hxs =>
    have hy : chkX y x = true := by simpa [chkXs] using hxs
    have hvr : VR w G.R (σ.x x) (a.eval y) := by
      have := XR.of_inv h hy
      generalize σ.x x = av at hi this
      cases av <;> first | exact this | (simp [isV] at hi)
    have hiv : isV (view (σ.x x)) = true := by generalize σ.x x = av at hi; cases av <;> simp_all [isV, view]
    have hvv : view (view (σ.x x)) = view (σ.x x) := by generalize σ.x x = av; cases av <;> rfl
    intro pos after gd next Q hn
    refine wp_value (v := a.eval y) ?_ (hn G _ _ _ (h.putN hd (NR.mk hiv hvr.view hvv)) (Pres.refl G w) ?_)
    · have hrun := hid (a.eval y) w
      simp [execOp, resolve, Act.eval, Deferred.ofValue, invoke] at hrun ⊢
      first | exact hrun | (simp [hrun])
    · have e : lpReg σ (view (σ.x x)) d = σ := by
        generalize σ.x x = av at hi
        cases av <;> cases d <;> first | rfl | (simp [isV] at hi)
      first | exact hk | (rw [e]; exact hk)
  | [], hxs => simp [chkXs] at hxs
  | _ :: _ :: _, hxs => simp [chkXs] at hxs
theorem eff_cvtU (h : Inv G n D σ a w) {op : Op} {ty : TypeId} {x : IX} {d : Option Nat} {K : St → Prop} (hd : dstOK n d = true) (hc : chkOp P op ty (.cvtU x) = true) (hw : iwp P (.cvtU x) d σ K) : Eff P G n D w a op ty d K := by
  cases op <;> first | (simp [chkOp] at hc; done) | skip
  rename_i s t y
  simp only [chkOp, Bool.and_eq_true] at hc
  obtain ⟨⟨hy, hs⟩, ht⟩ := hc
  have hw' : cvtUW σ d K (σ.x x) := hw
  generalize hxv : σ.x x = xv at hw'
  unfold cvtUW at hw'
  split at hw'
  · rename_i b off
    have e1 := XR.ref h hy hxv
    generalize hsb : σ.s b = ob at hw'
    unfold cvtUS at hw'
    split at hw'
    · rename_i cs
      obtain ⟨hlt, hk⟩ := hw'
      obtain ⟨t', hsh, _⟩ := h.store.shape hsb
      split at hs <;> try (cases hs; done)
      rename_i e hse
      split at hs <;> try (cases hs; done)
      rename_i j hj
      split at ht <;> try (cases ht; done)
      rename_i htu
      have hrun := Lib.run_to_unsafe (P := P) w ⟨b, off, none⟩ hse htu hj (by simpa using hs) hsh hlt
      intro pos after g next Q hn
      refine wp_value (v := .pointer (some ⟨b, off, none⟩)) ?_ (hn G _ _ _ (h.putN hd (NR.mk rfl (.ref b off) rfl)) (Pres.refl G w) hk)
      simp [execOp, e1, hrun]
    · exact hw'.elim
  · exact hw'.elim
theorem eff_cvtF (h : Inv G n D σ a w) {op : Op} {ty : TypeId} {u : Nat} {x : IX} {d : Option Nat} {K : St → Prop} (hd : dstOK n d = true) (hc : chkOp P op ty (.cvtF u x) = true) (hw : iwp P (.cvtF u x) d σ K) : Eff P G n D w a op ty d K := by
  cases op <;> first | (simp [chkOp] at hc; done) | skip
  rename_i s t y
  simp only [chkOp, Bool.and_eq_true] at hc
  obtain ⟨⟨hy, hs⟩, ht⟩ := hc
  have hw' : cvtFW P u σ d K (σ.x x) := hw
  generalize hxv : σ.x x = xv at hw'
  unfold cvtFW at hw'
  split at hw'
  · rename_i b off
    have e1 := XR.ref h hy hxv
    generalize hsb : σ.s b = ob at hw'
    unfold cvtFS at hw'
    split at hw'
    · rename_i cs
      obtain ⟨t0, hct, hl, hk⟩ := hw'
      obtain ⟨t', hsh, hfl⟩ := h.store.shape hsb
      have : t' = t0 := by
        rcases hfl _ (List.mem_of_getElem? hct) with h1 | h1
        · cases h1
        · injection h1 with h1; exact h1.symm
      subst this
      split at hs <;> try (cases hs; done)
      rename_i hse
      split at ht <;> try (cases ht; done)
      rename_i e hte
      simp only [Bool.and_eq_true, beq_iff_eq] at ht
      obtain ⟨rfl, hj⟩ := ht
      obtain ⟨j, hj⟩ := Option.isSome_iff_exists.1 hj
      have hrun := Lib.run_from_unsafe (P := P) w ⟨b, off, none⟩ hse hte hj hsh hl
      intro pos after g next Q hn
      refine wp_value (v := .pointer (some ⟨b, off, none⟩)) ?_ (hn G _ _ _ (h.putN hd (NR.mk rfl (.ref b off) rfl)) (Pres.refl G w) hk)
      simp [execOp, e1, hrun]
    · exact hw'.elim
  · exact hw'.elim
theorem owp_sound (h : Inv G n D σ a w) {op : Op} {ty : TypeId} {o : IOp} {d : Option Nat} {K : St → Prop} (hd : dstOK n d = true) (hc : chkOp P op ty o = true) (hw : owp P o d σ K) : Eff P G n D w a op ty d K := by
 unfold owp at hw
 cases hp : pv o (xg true σ) σ with
 | tot av =>
  rw [hp] at hw
  obtain ⟨v, hr, hnr⟩ := pv_sound h hc (av := av) (.inl hp)
  exact fun pos after g next Q hn => wp_value (hr d pos after g) (hn G _ _ _ (h.putN hd hnr) (Pres.refl G w) hw)
 | prt c av =>
  rw [hp] at hw
  obtain ⟨v, hr, hnr⟩ := pv_sound h hc (av := av) (.inr ⟨c, hp, hw.1⟩)
  exact fun pos after g next Q hn => wp_value (hr d pos after g) (hn G _ _ _ (h.putN hd hnr) (Pres.refl G w) hw.2)
 | no =>
  rw [hp] at hw
  have hw' : iwp P o d σ K := hw
  cases o with
  | mov tr x => exact eff_mov h hd hc hw'
  | allocL z => exact (eff_alloc h hd).1 hc hw'
  | allocS z => exact (eff_alloc h hd).2 hc hw'
  | boxL m x => exact (eff_box h hd).1 hc hw'
  | boxS m x => exact (eff_box h hd).2 hc hw'
  | buildSl sz m z ps => exact eff_buildSl h hd hc hw'
  | store m p v => exact eff_store h hd hc hw'
  | append sz by' x y => exact eff_append h hd hc hw'
  | cvtStr x => exact eff_cvtStr h hd hc hw'
  | cvtBytes x => exact eff_cvtBytes h hd hc hw'
  | call f args => exact eff_call h hd hc hw'
  | makeSl sz by' z l c => exact eff_makeSl h hd hc hw'
  | makeOw sz by' c => exact eff_makeOw h hd hc hw'
  | makeMap => exact eff_makeMap h hd hc hw'
  | callv x args => exact eff_callv h hd hc hw'
  | lookup kk z ok x k => exact eff_lookup h hd hc hw'
  | mapUpdate kk x k v => exact eff_mapUpdate h hd hc hw'
  | cvtRow x => exact eff_cvtRow h hd hc hw'
  | movT x => exact eff_movT h hd hc hw'
  | buildSlA sz m z ps => exact eff_buildSlA h hd hc hw'
  | appendA sz by' z x y => exact eff_appendA h hd hc hw'
  | appendZ sz by' z x y => exact eff_appendZ h hd hc hw'
  | storeN sz m p v => exact eff_storeN h hd hc hw'
  | boxN sz m x => exact eff_boxN h hd hc hw'
  | boxT m t j u x => exact eff_boxT h hd hc hw'
  | appendB t x y => exact eff_appendB h hd hc hw'
  | cvtU x => exact eff_cvtU h hd hc hw'
  | callX f x => exact eff_callX h hd hc hw'
  | cvtF u x => exact eff_cvtF h hd hc hw'
  | copyA sz x y => exact eff_copyA h hd hc hw'
  | clearA z x => exact eff_clearA h hd hc hw'
  | frz sz ow x => exact eff_frz h hd hc hw'
  | loadF sz ow x => exact eff_loadF h hd hc hw'
  | loadD x => exact eff_loadD h hd hc hw'
  | loadE off j x => exact eff_loadE h hd hc hw'
  | eqN ne x => exact eff_eqN h hd hc hw'
  | ovl f x y => exact eff_ovl h hd hc hw'
  | callU f i args => exact eff_callU h hd hc hw'
  | _ => exact hw'.elim
def oneP (P : Program) (ops : Array Oper) (o : Oper) (a : Act) (w : World) (next : Act → World → Prop) (Q : Exit → Act → World → Prop) : Prop :=
 if Region.wanted o (yielded ops a.tmps) then o.wp P a w next Q ∨ (o.asks P a w ∧ LetsOut Q) else next (a.put o.dst undef) w
theorem oneP_run {ops : Array Oper} {o : Oper} {next : Act → World → Prop} {Q : Exit → Act → World → Prop} (hw : Region.wanted o (yielded ops a.tmps) = true) (h : o.wp P a w next Q) : oneP P ops o a w next Q := by
 unfold oneP; rw [if_pos hw]; exact .inl h
theorem oneP_skip {ops : Array Oper} {o : Oper} {next : Act → World → Prop} {Q : Exit → Act → World → Prop} (hw : Region.wanted o (yielded ops a.tmps) = false) (h : next (a.put o.dst undef) w) : oneP P ops o a w next Q := by
 unfold oneP; rw [if_neg (by simp [hw])]; exact h
theorem dropWhen (h : Inv G n D σ a w) {d : Option Nat} (hd : dstOK n d = true) (av : AV) (hl : ∀ t, holdsLp av t → ∀ i, d = some i → (i, t) ∈ σ.lp) : Inv G n D (σ.put d (.when false av)) (a.put d undef) w := by
 have := h.put (s' := σ.s) (lp' := σ.lp) d (fun i hi => by subst hi; simpa [dstOK] using hd) (.when false av) undef h.good (Pres.refl G w) h.store (fun _ hx => hx) (fun i t hi ht => hl t ht i hi) (fun i t _ ⟨cs, hcs⟩ => by cases hcs)
   (fun _ _ _ _ => ⟨rfl, rfl, rfl⟩) (fun _ _ _ _ _ _ hcc => ⟨hcc, rfl, rfl⟩) (fun i hi => ⟨fun hh => Bool.noConfusion hh, fun _ => rfl⟩)
 cases d <;> exact this
theorem lpReg_same (σ : St) : ∀ (av : AV) (d : Option Nat), (lpReg σ av d).e = σ.e ∧ (lpReg σ av d).s = σ.s ∧ ∀ x ∈ σ.lp, x ∈ (lpReg σ av d).lp
 | .lp t _, some i => ⟨rfl, rfl, fun x hx => List.mem_cons_of_mem _ hx⟩
 | .lp t _, none => ⟨rfl, rfl, fun _ hx => hx⟩
 | .when _ av, d => lpReg_same σ av d
 | .undef, _ | .bool _, _ | .int _ _, _ | .str _, _ | .nilp, _ | .ref _ _, _ | .sp _, _ | .loc _, _ | .sl _ _ _ _, _ | .arr _ _ _ _, _ | .agg _, _ | .tup _, _ | .fn _ _ _, _ | .nilf, _ | .mp _, _ | .nilm, _ | .us _ _ _, _ | .one, _ | .btag _, _ | .nili, _ | .bb _ _ _, _ => ⟨rfl, rfl, fun _ hx => hx⟩
theorem lpMore (h : Inv G n D σ a w) (av : AV) (d : Option Nat) : Inv G n D (lpReg σ av d) a w := by
 obtain ⟨e1, e2, e3⟩ := lpReg_same σ av d
 exact ⟨h.good, by rw [e2]; exact h.store, h.size, fun i v hv => by rw [e1]; exact h.slots i v hv, fun i hi => by rw [e1]; exact h.dom i hi, fun i t ht => e3 _ (h.lps i t (by rw [e1] at ht; exact ht)), h.def0⟩
theorem lpReg_mem : ∀ (av : AV) (d : Option Nat) (t : Nat), holdsLp av t → ∀ i, d = some i → (i, t) ∈ (lpReg σ av d).lp
 | .lp t' off, _, t, ht, i, rfl => by have : t' = t := ht; subst this; exact List.mem_cons_self
 | .when _ av, d, t, ht, i, hi => lpReg_mem av d t ht i hi
 | .undef, _, _, ht, _, _ | .bool _, _, _, ht, _, _ | .int _ _, _, _, ht, _, _ | .str _, _, _, ht, _, _ | .nilp, _, _, ht, _, _ | .ref _ _, _, _, ht, _, _ | .sp _, _, _, ht, _, _ | .loc _, _, _, ht, _, _ | .sl _ _ _ _, _, _, ht, _, _
 | .arr _ _ _ _, _, _, ht, _, _ | .agg _, _, _, ht, _, _ | .tup _, _, _, ht, _, _ | .fn _ _ _, _, _, ht, _, _ | .nilf, _, _, ht, _, _ | .mp _, _, _, ht, _, _ | .nilm, _, _, ht, _, _ | .us _ _ _, _, _, ht, _, _ | .one, _, _, ht, _, _ | .btag _, _, _, ht, _, _ | .nili, _, _, ht, _, _ | .bb _ _ _, _, _, ht, _, _ => ht.elim
theorem Inv.whenTrue {d : Option Nat} {av : AV} (h : Inv G n D (σ.put d av) a w) (hd : dstOK n d = true) : Inv G n D (σ.put d (.when true av)) a w := by
  cases d with
  | none => exact h
  | some i =>
  have hlk : ∀ k, k ≠ i → look (σ.put (some i) (.when true av)).e k = look (σ.put (some i) av).e k := fun k hk => by simp [St.put, look_cons, Ne.symm hk]
  have e1 : look (σ.put (some i) av).e i = av := by simp [St.put, look_cons]
  have e2 : look (σ.put (some i) (.when true av)).e i = .when true av := by simp [St.put, look_cons]
  have hloc : ∀ d' cs, look (σ.put (some i) (.when true av)).e d' = .loc cs → look (σ.put (some i) av).e d' = .loc cs := by
    intro d' cs hcs
    by_cases hd' : d' = i
    · subst hd'; rw [e2] at hcs; cases hcs
    · rw [hlk d' hd'] at hcs; exact hcs
  have fr : ∀ k av' u, ValS G w (σ.put (some i) av).e a.tmps k av' u → ValS G w (σ.put (some i) (.when true av)).e a.tmps k av' u := fun k av' u hv =>
    ValS.frame (fun _ _ hv => hv) (fun b _ => ⟨rfl, rfl, rfl⟩) (fun _ _ _ _ hc => ⟨hc, rfl, rfl⟩) _ _ (fun d' _ cs hcs => ⟨cs, hloc d' cs hcs, rfl⟩) hv
  refine ⟨h.good, h.store, h.size, fun k u hu => ?_, fun k hk => ?_, fun k t ht => ?_, h.def0⟩
  · have hs := h.slots k u hu
    by_cases hk : k = i
    · subst hk
      rw [e1] at hs
      rw [e2]
      exact ⟨fun _ => fr _ _ _ hs, fun hh => Bool.noConfusion hh⟩
    · rw [hlk k hk]; exact fr _ _ _ hs
  · have : k ≠ i := by
      have : i < n := by simpa [dstOK] using hd
      omega
    rw [hlk k this]; exact h.dom k hk
  · by_cases hk : k = i
    · subst hk
      rw [e2] at ht
      exact h.lps k t (by rw [e1]; exact ht)
    · rw [hlk k hk] at ht; exact h.lps k t ht
theorem yielded_at {ops : Array Oper} {tmps : Array Value} {j t : Nat} (h : (ops[j]?).bind (·.dst) = some t) : yielded ops tmps j = (match tmps[t]? with | some (.bool b) => some b | _ => none) := by
 unfold yielded
 rw [h]
 rfl
theorem guard_bool {ops : Array Oper} {o : Oper} {j t : Nat} {want b : Bool} (hg : o.guard = some (j, want)) (ht : (ops[j]?).bind (·.dst) = some t) (hv : a.tmps[t]? = some (.bool b)) : Region.wanted o (yielded ops a.tmps) = (b == want) := by
 unfold Region.wanted
 rw [hg]
 simp only [yielded_at ht, hv]
 cases b <;> cases want <;> rfl
theorem slot_at (h : Inv G n D σ a w) {t : Nat} (hl : look σ.e t ≠ .undef) : ∃ v, a.tmps[t]? = some v ∧ ValS G w σ.e a.tmps t (look σ.e t) v := by
 have hlt : t < a.tmps.size := by rw [h.size]; exact h.lt_of hl
 exact ⟨_, eval_some hlt, h.slots t _ (eval_some hlt)⟩
theorem gwp_sound (h : Inv G n D σ a w) {ops : Array Oper} {o : Oper} {o' : IOper} {K : St → Prop} (hc : chkOper P n ops o o' = true) (hw : gwp P o' σ K) {next : Act → World → Prop} {Q : Exit → Act → World → Prop}
  (hn : ∀ G' σ' a' w', Inv G' n D σ' a' w' → Pres G w G' w' → K σ' → next a' w') : oneP P ops o a w next Q := by
 obtain ⟨dst, op, ty, pos, after, g⟩ := o
 obtain ⟨d, io, ig⟩ := o'
 simp only [chkOper, Bool.and_eq_true, beq_iff_eq] at hc
 obtain ⟨⟨⟨rfl, hd⟩, hcg⟩, hcop⟩ := hc
 have runs : ∀ {σ₁ : St}, Inv G n D σ₁ a w → owp P io dst σ₁ K → (⟨dst, op, ty, pos, after, g⟩ : Oper).wp P a w next Q := fun h1 ho => owp_sound h1 hd hcop ho pos after g next Q hn
 cases ig with
 | none =>
  cases g with
  | some g => simp [chkG] at hcg
  | none => exact oneP_run rfl (runs h hw)
 | some tw =>
  obtain ⟨t, want⟩ := tw
  cases g with
  | none => simp [chkG] at hcg
  | some jw =>
  obtain ⟨j, want'⟩ := jw
  simp only [chkG, Bool.and_eq_true, beq_iff_eq] at hcg
  obtain ⟨rfl, ht⟩ := hcg
  have hw' : gsel P io dst t want' σ K (look σ.e t) := hw
  have skip : ∀ {σ₁ : St}, Inv G n D σ₁ a w → K (σ₁.put dst (.tup [])) → next (a.put dst undef) w := fun h1 hk => hn G _ _ _ (h1.putSkip hd) (Pres.refl G w) hk
  have core : ∀ (g : Bool), Region.wanted ⟨dst, op, ty, pos, after, some (j, want')⟩ (yielded ops a.tmps) = g → nxg P g io σ dst K (pv io (xg g σ) σ) → oneP P ops ⟨dst, op, ty, pos, after, some (j, want')⟩ a w next Q := by
   intro g hwt hx
   cases g with
   | true =>
    refine oneP_run hwt ?_
    cases hp : pv io (xg true σ) σ with
    | tot av =>
     rw [hp] at hx
     obtain ⟨v, hr, hnr⟩ := pv_sound h hcop (av := av) (.inl hp)
     refine wp_value (hr _ _ _ _) (hn G _ _ _ ((h.putN hd hnr).whenTrue hd) (Pres.refl G w) hx)
    | prt c av =>
     rw [hp] at hx
     obtain ⟨v, hr, hnr⟩ := pv_sound h hcop (av := av) (.inr ⟨c, hp, hx.1 rfl⟩)
     refine wp_value (hr _ _ _ _) (hn G _ _ _ ((h.putN hd hnr).whenTrue hd) (Pres.refl G w) hx.2)
    | no =>
     rw [hp] at hx
     exact runs h (hx.1 rfl)
   | false =>
    refine oneP_skip hwt ?_
    cases hp : pv io (xg false σ) σ with
    | tot av =>
     rw [hp] at hx
     exact hn G _ _ _ (dropWhen (lpMore h av dst) hd av (fun t' ht' i hi => lpReg_mem av dst t' ht' i hi)) (Pres.refl G w) hx
    | prt c av =>
     rw [hp] at hx
     exact hn G _ _ _ (dropWhen (lpMore h av dst) hd av (fun t' ht' i hi => lpReg_mem av dst t' ht' i hi)) (Pres.refl G w) hx.2
    | no =>
     rw [hp] at hx
     exact skip h (hx.2 rfl)
  cases hlk : look σ.e t with
  | bool b =>
   rw [hlk] at hw'
   obtain ⟨v, hv1, hv2⟩ := slot_at h (t := t) (by rw [hlk]; simp)
   rw [hlk] at hv2
   have := VR.inv_bool hv2.1
   subst this
   exact core _ (guard_bool (o := ⟨dst, op, ty, pos, after, some (j, want')⟩) rfl ht hv1) hw'
  | «when» b' g =>
   rw [hlk] at hw'
   obtain ⟨v, hv1, hv2⟩ := slot_at h (t := t) (by rw [hlk]; simp)
   rw [hlk] at hv2
   cases g with
   | bool b =>
    have hx : nxg P (b' && (b == want')) io σ dst K (pv io (xg (b' && (b == want')) σ) σ) := hw'
    cases b' with
    | true =>
     have hvb := hv2.1 rfl
     have := VR.inv_bool hvb.1
     subst this
     exact core _ (guard_bool (o := ⟨dst, op, ty, pos, after, some (j, want')⟩) rfl ht hv1) hx
    | false =>
     have := hv2.2 rfl
     subst this
     have hwt : Region.wanted ⟨dst, op, ty, pos, after, some (j, want')⟩ (yielded ops a.tmps) = false := by
      unfold Region.wanted
      simp only [yielded_at ht, hv1]
      rfl
     exact core _ hwt hx
   | _ => exact hw'.elim
  | tup vs =>
   rw [hlk] at hw'
   cases vs with
   | cons _ _ => exact hw'.elim
   | nil =>
    obtain ⟨v, hv1, hv2⟩ := slot_at h (t := t) (by rw [hlk]; simp)
    rw [hlk] at hv2
    obtain ⟨ys, rfl, _⟩ := hv2
    have hwt : Region.wanted ⟨dst, op, ty, pos, after, some (j, want')⟩ (yielded ops a.tmps) = false := by
     unfold Region.wanted
     simp only [yielded_at ht, hv1]
     rfl
    exact oneP_skip hwt (skip h hw')
  | _ => rw [hlk] at hw'; exact hw'.elim
end
end Go.AB
end

section
namespace Go.AB
open Go
section
variable {P : Program} {G G' : Gh} {n : Nat} {D : List Deferred} {σ : St} {a : Act} {w w' : World}
theorem swp_sound {ops : Array Oper} {Q : Exit → Act → World → Prop} {K : St → Prop} (G₀ : Gh) (w₀ : World)
  (hn : ∀ G' σ' a' w', Inv G' n D σ' a' w' → Pres G₀ w₀ G' w' → K σ' → Q .normal a' w') : ∀ (l : List Oper) (l' : List IOper) (G : Gh) (σ : St) (a : Act) (w : World), chkOpers P n ops l l' = true → Inv G n D σ a w → Pres G₀ w₀ G w → swp P l' σ K → wpList P ops Q l a w
 | [], [], G, σ, a, w, _, h, hp, hk => hn G σ a w h hp hk
 | o :: l, o' :: l', G, σ, a, w, hc, h, hp, hk => by
  simp only [chkOpers, Bool.and_eq_true] at hc
  show oneP P ops o a w (wpList P ops Q l) Q
  exact gwp_sound h hc.1 hk fun G' σ' a' w' h1 h2 h3 => swp_sound G₀ w₀ hn l l' G' σ' a' w' hc.2 h1 (hp.trans h2) h3
 | [], _ :: _, _, _, _, _, hc, _, _, _ => by simp [chkOpers] at hc
 | _ :: _, [], _, _, _, _, hc, _, _, _ => by simp [chkOpers] at hc
theorem look_keep (e : List (Nat × AV)) (i : Nat) : ∀ (live : List Nat), look (live.map fun j => (j, dropLp (look e j))) i = if i ∈ live then dropLp (look e i) else .undef
  | [] => rfl
  | j :: live => by
    rw [List.map_cons, look_cons, look_keep e i live]
    by_cases h : j = i
    · subst h; simp
    · simp [h, Ne.symm h]
theorem dropLp_no (av : AV) (t : Nat) : ¬ holdsLp (dropLp av) t := by cases av <;> simp [dropLp, holdsLp]
theorem Inv.keep (h : Inv G n D σ a w) (live : List Nat) : Inv G n D (σ.keep live) a w := by
  have hl : ∀ i, look (σ.keep live).e i = if i ∈ live then dropLp (look σ.e i) else .undef := fun i => look_keep σ.e i live
  have hu : ∀ i v, ValS G w (σ.keep live).e a.tmps i .undef v := fun i v => ⟨.undef _, trivial⟩
  refine ⟨h.good, h.store, h.size, fun i v hv => ?_, fun i hi => ?_, fun i t ht => ?_, h.def0⟩
  · rw [hl i]
    by_cases hi : i ∈ live
    · rw [if_pos hi]
      have hs := h.slots i v hv
      generalize look σ.e i = av at hs
      have fr : ∀ av, (∀ t, ¬ holdsLp av t) → ValS G w σ.e a.tmps i av v → ValS G w (σ.keep live).e a.tmps i av v := fun av hno hs =>
        ValS.frame (fun _ _ hv => hv) (fun b _ => ⟨rfl, rfl, rfl⟩) (fun _ _ _ _ hc => ⟨hc, rfl, rfl⟩) _ _ (fun t ht => (hno t ht).elim) hs
      cases av <;> first | exact hu i v | exact fr _ (fun t ht => ht) hs
    · rw [if_neg hi]; exact hu i v
  · rw [hl i]
    by_cases hi' : i ∈ live
    · rw [if_pos hi', h.dom i hi]; rfl
    · rw [if_neg hi']
  · rw [hl i] at ht
    by_cases hi : i ∈ live
    · rw [if_pos hi] at ht; exact (dropLp_no _ t ht).elim
    · rw [if_neg hi] at ht; exact ht.elim
theorem look_keepV (e : List (Nat × AV)) (i : Nat) : ∀ (live : List (Nat × Bool)), look (live.map fun p => (p.1, vwIf p.2 (dropLp (look e p.1)))) i = .undef ∨ look (live.map fun p => (p.1, vwIf p.2 (dropLp (look e p.1)))) i = dropLp (look e i) ∨ look (live.map fun p => (p.1, vwIf p.2 (dropLp (look e p.1)))) i = view (dropLp (look e i))
  | [] => .inl rfl
  | p :: live => by
    rw [List.map_cons, look_cons]
    by_cases h : p.1 = i
    · rw [if_pos h, h]
      cases p.2 with
      | false => exact .inr (.inl rfl)
      | true => exact .inr (.inr rfl)
    · rw [if_neg h]; exact look_keepV e i live
theorem ValS.view' {e : List (Nat × AV)} {tmps : Array Value} {i : Nat} {av : AV} {v : Value} (h : ValS G w e tmps i av v) : ValS G w e tmps i (view av) v := by
 cases av <;> first | exact h | exact ⟨VR.undef _, trivial⟩ | exact ⟨VR.view h.1, OwnR.view ..⟩
theorem view_no (av : AV) (h : ∀ t, ¬ holdsLp av t) (t : Nat) : ¬ holdsLp (view av) t := by cases av <;> first | exact h t | exact fun h => h
theorem Inv.keepV (h : Inv G n D σ a w) (live : List (Nat × Bool)) : Inv G n D (σ.keepV live) a w := by
  have fr : ∀ i v, a.tmps[i]? = some v → ValS G w (σ.keepV live).e a.tmps i (dropLp (look σ.e i)) v := fun i v hv => by
    have hs := h.slots i v hv
    generalize look σ.e i = av at hs
    have fr : ∀ av, (∀ t, ¬ holdsLp av t) → ValS G w σ.e a.tmps i av v → ValS G w (σ.keepV live).e a.tmps i av v := fun av hno hs =>
      ValS.frame (fun _ _ hv => hv) (fun b _ => ⟨rfl, rfl, rfl⟩) (fun _ _ _ _ hc => ⟨hc, rfl, rfl⟩) _ _ (fun t ht => (hno t ht).elim) hs
    cases av <;> first | exact ⟨.undef _, trivial⟩ | exact fr _ (fun t ht => ht) hs
  have hl := fun i => look_keepV σ.e i live
  refine ⟨h.good, h.store, h.size, fun i v hv => ?_, fun i hi => ?_, fun i t ht => ?_, h.def0⟩
  · rcases hl i with e | e | e
    · have e' : look (σ.keepV live).e i = .undef := e
      rw [e']; exact ⟨.undef _, trivial⟩
    · have e' : look (σ.keepV live).e i = dropLp (look σ.e i) := e
      rw [e']; exact fr i v hv
    · have e' : look (σ.keepV live).e i = view (dropLp (look σ.e i)) := e
      rw [e']; exact ValS.view' (fr i v hv)
  · rcases hl i with e | e | e
    · exact e
    · have e' : look (σ.keepV live).e i = dropLp (look σ.e i) := e
      rw [e', h.dom i hi]; rfl
    · have e' : look (σ.keepV live).e i = view (dropLp (look σ.e i)) := e
      rw [e', h.dom i hi]; rfl
  · have ht' : holdsLp (look (σ.keepV live).e i) t := ht
    rcases hl i with e | e | e
    · have e' : look (σ.keepV live).e i = .undef := e
      rw [e'] at ht'; exact ht'.elim
    · have e' : look (σ.keepV live).e i = dropLp (look σ.e i) := e
      rw [e'] at ht'; exact (dropLp_no _ t ht').elim
    · have e' : look (σ.keepV live).e i = view (dropLp (look σ.e i)) := e
      rw [e'] at ht'; exact (view_no _ (dropLp_no _) t ht').elim
def DrawQ (P : Program) (n : Nat) : Prop :=
 ∀ (D : List Deferred) (draw : Bool) (id : Nat) (ops : Array Oper) (iops : List IOper) (q : Nat) (G : Gh) (σ : St) (a : Act) (w : World) (K : St → Prop) (Q : Exit → Act → World → Prop),
  chkOpers P n ops ops.toList iops = true → (draw = true → chkDr ops q iops = true) → Inv G n D σ a w → qwp P q iops σ K →
  (∀ G' σ' a' w', Inv G' n D σ' a' w' → Pres G w G' w' → K σ' → Q .normal a' w') → (Code.region id ops draw).wp P Q a w
def DrawT (P : Program) (n : Nat) : Prop :=
 ∀ (D : List Deferred) (draw : Bool) (id : Nat) (ops : Array Oper) (iops : List IOper) (T : List Nat) (q : Nat) (G : Gh) (σ : St) (a : Act) (w : World) (K : St → Prop) (Q : Exit → Act → World → Prop),
  chkOpers P n ops ops.toList iops = true → (draw = true → chkDrT T ops q iops = true) → Inv G n D σ a w → noLpB T σ.e = true → qwpT P T q iops σ K →
  (∀ G' σ' a' w', Inv G' n D σ' a' w' → Pres G w G' w' → K σ' → Q .normal a' w') → (Code.region id ops draw).wp P Q a w
def DrawB (P : Program) (n : Nat) : Prop :=
 ∀ (D : List Deferred) (id : Nat) (ops : Array Oper) (T : List Nat) (l : List Item) (G : Gh) (σ : St) (a : Act) (w : World) (K : St → Prop) (Q : Exit → Act → World → Prop),
  chkB P T n ops l = true → Inv G n D σ a w → noLpB T σ.e = true → bwp P T l σ K →
  (∀ G' σ' a' w', Inv G' n D σ' a' w' → Pres G w G' w' → K σ' → Q .normal a' w') → (Code.region id ops true).wp P Q a w
def DrawX (P : Program) (n : Nat) : Prop :=
 ∀ (D : List Deferred) (id : Nat) (ops : Array Oper) (deps : List (List Bool)) (iops : List IOper) (G : Gh) (σ : St) (a : Act) (w : World) (K : St → Prop) (Q : Exit → Act → World → Prop),
  chkOpers P n ops ops.toList iops = true → chkXo ops deps = true → Inv G n D σ a w → xwp P deps iops K iops (xfalse iops) σ →
  (∀ G' σ' a' w', Inv G' n D σ' a' w' → Pres G w G' w' → K σ' → Q .normal a' w') → (Code.region id ops true).wp P Q a w
def DrawOK (P : Program) (n : Nat) : Prop := DrawQ P n ∧ DrawT P n ∧ DrawB P n ∧ DrawX P n
def Rel (n : Nat) (D : List Deferred) (G₀ : Gh) (w₀ : World) (Q : Exit → St → Prop) (Q' : Exit → Act → World → Prop) : Prop :=
 ∀ x G' σ' a' w', Inv G' n D σ' a' w' → Pres G₀ w₀ G' w' → Q x σ' → Q' x a' w'
theorem splitL_eq : ∀ (c : Code) {L : List Code} {cr : Code} {l : Nat}, splitL c l = some (L, cr) → c = L.foldr Code.seq (.seq (.label l) cr) ∧ findLabel c l = some (Code.skip.seq cr) := by
  intro c
  induction c with
  | seq s c _ ih =>
    intro L cr l h
    have gen : (∀ m, s ≠ .label m) → (if (findLabel s l).isNone then (splitL c l).map fun p => (s :: p.1, p.2) else none) = some (L, cr) → Code.seq s c = L.foldr Code.seq (.seq (.label l) cr) ∧ findLabel (Code.seq s c) l = some (Code.skip.seq cr) := by
      intro _ h
      split at h
      · rename_i hn
        cases hs : splitL c l with
        | none => rw [hs] at h; cases h
        | some p =>
          obtain ⟨L1, r1⟩ := p
          rw [hs] at h
          injection h with h; injection h with h1 h2; subst h1; subst h2
          have hn' : findLabel s l = none := Option.isNone_iff_eq_none.1 hn
          obtain ⟨q1, q2⟩ := ih hs
          refine ⟨by rw [q1]; rfl, ?_⟩
          unfold findLabel
          rw [hn']
          exact q2
      · cases h
    cases s with
    | label m =>
      have h : (if m == l then some (([] : List Code), c) else none) = some (L, cr) := h
      split at h
      · rename_i hm
        injection h with h; injection h with h1 h2; subst h1; subst h2
        have hm' : m = l := by simpa using hm
        subst hm'
        exact ⟨rfl, by simp [findLabel]⟩
      · cases h
    | _ => exact gen (fun m e => by cases e) h
  | _ => intro L cr l h; cases h
theorem isSkip_eq {a : IC} (h : isSkip a = true) : a = .skip := by cases a <;> first | rfl | cases h
def JumpAt (n : Nat) (D : List Deferred) (G₀ : Gh) (w₀ : World) (C : (St → Prop) → (St → Nat) → Prop) (a : Act) (w : World) (k : Nat) : Prop := ∃ I μ G τ, C I μ ∧ Inv G n D τ a w ∧ Pres G₀ w₀ G w ∧ I τ ∧ μ τ ≤ k
noncomputable def leastJ (n : Nat) (D : List Deferred) (G₀ : Gh) (w₀ : World) (C : (St → Prop) → (St → Nat) → Prop) (a : Act) (w : World) : Nat :=
 Classical.epsilon fun k => JumpAt n D G₀ w₀ C a w k ∧ ∀ j, JumpAt n D G₀ w₀ C a w j → k ≤ j
theorem leastJ_spec {n : Nat} {D : List Deferred} {G₀ : Gh} {w₀ : World} {C : (St → Prop) → (St → Nat) → Prop} {a : Act} {w : World} (h : ∃ k, JumpAt n D G₀ w₀ C a w k) :
    JumpAt n D G₀ w₀ C a w (leastJ n D G₀ w₀ C a w) ∧ ∀ j, JumpAt n D G₀ w₀ C a w j → leastJ n D G₀ w₀ C a w ≤ j := by
  refine Classical.epsilon_spec (p := fun k => JumpAt n D G₀ w₀ C a w k ∧ ∀ j, JumpAt n D G₀ w₀ C a w j → k ≤ j) ?_
  obtain ⟨k, hk⟩ := h
  induction k using Nat.strongRecOn with
  | _ k ih =>
    by_cases hj : ∃ j, j < k ∧ JumpAt n D G₀ w₀ C a w j
    · obtain ⟨j, hj, hj'⟩ := hj
      exact ih j hj hj'
    · exact ⟨k, hk, fun j hj' => by
        rcases Nat.lt_or_ge j k with hlt | hge
        · exact absurd ⟨j, hlt, hj'⟩ hj
        · exact hge⟩
theorem cwp_sound (hD : DrawOK P n) : ∀ (ic : IC) (c : Code) (G₀ : Gh) (w₀ : World) (Q : Exit → St → Prop) (Q' : Exit → Act → World → Prop) (G : Gh) (σ : St) (a : Act) (w : World),
    chk P n c ic = true → Rel n D G₀ w₀ Q Q' → Inv G n D σ a w → Pres G₀ w₀ G w → cwp P ic Q σ → c.wp P Q' a w
  | .skip, c, G₀, w₀, Q, Q', G, σ, a, w, hc, hr, h, hp, hw => by
    cases c <;> first | (simp [chk] at hc; done) | skip
    exact wp_skip (hr _ G σ a w h hp hw)
  | .reg q iops live, c, G₀, w₀, Q, Q', G, σ, a, w, hc, hr, h, hp, hw => by
    cases c <;> first | (simp [chk] at hc; done) | skip
    rename_i id ops draw
    simp only [chk, Bool.and_eq_true] at hc
    have hn : ∀ G' σ' a' w', Inv G' n D σ' a' w' → Pres G₀ w₀ G' w' → regK live Q σ' → Q' .normal a' w' := fun G' σ' a' w' h1 h2 h3 => hr _ G' _ a' w' (h1.keep live) h2 h3
    cases q with
    | none =>
      have hdr : draw = false := by simpa using hc.2
      subst hdr
      exact wp_region_list (swp_sound G₀ w₀ hn ops.toList iops G σ a w hc.1 h hp hw)
    | some q =>
      have hdr : draw = true → chkDr ops q iops = true := fun hd => by
        have := hc.2
        rw [hd] at this
        simpa using this
      exact hD.1 D draw id ops iops q G σ a w _ Q' hc.1 hdr h hw fun G' σ' a' w' h1 h2 h3 => hn G' σ' a' w' h1 (hp.trans h2) h3
  | .regT T q iops live, c, G₀, w₀, Q, Q', G, σ, a, w, hc, hr, h, hp, hw => by
    cases c <;> first | (simp [chk] at hc; done) | skip
    rename_i id ops draw
    simp only [chk, Bool.and_eq_true] at hc
    have hn : ∀ G' σ' a' w', Inv G' n D σ' a' w' → Pres G₀ w₀ G' w' → regK live Q σ' → Q' .normal a' w' := fun G' σ' a' w' h1 h2 h3 => hr _ G' _ a' w' (h1.keep live) h2 h3
    have hdr : draw = true → chkDrT T ops q iops = true := fun hd => by
      have := hc.2
      rw [hd] at this
      simpa using this
    exact hD.2.1 D draw id ops iops T q G σ a w _ Q' hc.1 hdr h hw.1 hw.2 fun G' σ' a' w' h1 h2 h3 => hn G' σ' a' w' h1 (hp.trans h2) h3
  | .regB T l live, c, G₀, w₀, Q, Q', G, σ, a, w, hc, hr, h, hp, hw => by
    cases c <;> first | (simp [chk] at hc; done) | skip
    rename_i id ops draw
    simp only [chk, Bool.and_eq_true] at hc
    obtain ⟨rfl, hc⟩ := hc
    have hn : ∀ G' σ' a' w', Inv G' n D σ' a' w' → Pres G₀ w₀ G' w' → regK live Q σ' → Q' .normal a' w' := fun G' σ' a' w' h1 h2 h3 => hr _ G' _ a' w' (h1.keep live) h2 h3
    exact hD.2.2.1 D id ops T l G σ a w _ Q' hc h hw.1 hw.2 fun G' σ' a' w' h1 h2 h3 => hn G' σ' a' w' h1 (hp.trans h2) h3
  | .regX deps iops live, c, G₀, w₀, Q, Q', G, σ, a, w, hc, hr, h, hp, hw => by
    cases c <;> first | (simp [chk] at hc; done) | skip
    rename_i id ops draw
    simp only [chk, Bool.and_eq_true] at hc
    obtain ⟨rfl, hc1, hc2⟩ := hc
    have hn : ∀ G' σ' a' w', Inv G' n D σ' a' w' → Pres G₀ w₀ G' w' → regK live Q σ' → Q' .normal a' w' := fun G' σ' a' w' h1 h2 h3 => hr _ G' _ a' w' (h1.keep live) h2 h3
    exact hD.2.2.2 D id ops deps iops G σ a w _ Q' hc1 hc2 h hw fun G' σ' a' w' h1 h2 h3 => hn G' σ' a' w' h1 (hp.trans h2) h3
  | .seq x y, c, G₀, w₀, Q, Q', G, σ, a, w, hc, hr, h, hp, hw => by
    cases c <;> first | (simp [chk] at hc; done) | skip
    rename_i c1 c2
    simp only [chk, Bool.and_eq_true] at hc
    refine wp_seq (cwp_sound hD x c1 G₀ w₀ (seqK P y Q) _ G σ a w hc.1 ?_ h hp ?_)
    · intro e G' σ' a' w' h1 h2 h3
      cases e with
      | normal => exact cwp_sound hD y c2 G₀ w₀ Q Q' G' σ' a' w' hc.2 hr h1 h2 h3
      | _ => exact hr _ G' σ' a' w' h1 h2 h3
    · have : (fun x τ => match x with | .normal => cwp P y Q τ | x => Q x τ) = seqK P y Q := by
        funext e τ; cases e <;> rfl
      have hw' : cwp P x (fun x τ => match x with | .normal => cwp P y Q τ | x => Q x τ) σ := hw
      rw [this] at hw'
      exact hw'
  | .cond cx x y, c, G₀, w₀, Q, Q', G, σ, a, w, hc, hr, h, hp, hw => by
    cases c <;> first | (simp [chk] at hc; done) | skip
    rename_i o c1 c2
    simp only [chk, Bool.and_eq_true] at hc
    obtain ⟨⟨hx, h1⟩, h2⟩ := hc
    have hb := XR.of_inv h hx
    have hw' : condW P x y Q σ (σ.x cx) := by
      have : cwp P (.cond cx x y) Q σ = condW P x y Q σ (σ.x cx) := by
        show (match σ.x cx with | .bool v => (v = true → cwp P x Q σ) ∧ (v = false → cwp P y Q σ) | _ => False) = _
        cases σ.x cx <;> rfl
      rw [← this]; exact hw
    generalize σ.x cx = xv at hb hw'
    cases xv <;> try exact hw'.elim
    rename_i v
    have hv := VR.inv_bool hb
    exact wp_cond_split hv (fun hv => cwp_sound hD x c1 G₀ w₀ Q Q' G σ a w h1 hr h hp (hw'.1 hv)) (fun hv => cwp_sound hD y c2 G₀ w₀ Q Q' G σ a w h2 hr h hp (hw'.2 hv))
  | .block id x, c, G₀, w₀, Q, Q', G, σ, a, w, hc, hr, h, hp, hw => by
    cases c <;> first | (simp [chk] at hc; done) | skip
    rename_i id' c1
    simp only [chk, Bool.and_eq_true, beq_iff_eq] at hc
    obtain ⟨rfl, hc⟩ := hc
    refine wp_block (cwp_sound hD x c1 G₀ w₀ (blkK id' Q) _ G σ a w hc ?_ h hp hw)
    intro e G' σ' a' w' h1 h2 h3
    cases e with
    | exit i =>
      have h3' : (bif i == id' then Q .normal σ' else Q (.exit i) σ') := h3
      by_cases hi : i = id'
      · have : (i == id') = true := by simpa using hi
        rw [this] at h3'
        simpa [Exit.inBlock, hi] using hr _ G' σ' a' w' h1 h2 h3'
      · have : (i == id') = false := by simpa using hi
        rw [this] at h3'
        simpa [Exit.inBlock, hi] using hr _ G' σ' a' w' h1 h2 h3'
    | _ => exact hr _ G' σ' a' w' h1 h2 h3
  | .loop live x, c, G₀, w₀, Q, Q', G, σ, a, w, hc, hr, h, hp, hw => by
    cases c <;> first | (simp [chk] at hc; done) | skip
    rename_i c1
    simp only [chk] at hc
    obtain ⟨I, μ, h0, hI⟩ := hw
    have key : ∀ (m : Nat) (G : Gh) (σ : St) (a : Act) (w : World), Inv G n D σ a w → Pres G₀ w₀ G w → I σ → μ σ < m → Code.rounds P c1 Q' m a w := by
      intro m
      induction m with
      | zero => intro G σ a w _ _ _ hm; omega
      | succ m ih =>
        intro G σ a w h hp hi hm
        rw [rounds_succ]
        refine cwp_sound hD x c1 G₀ w₀ (loopK live I μ (μ σ) Q) _ G σ a w hc ?_ h hp (hI σ hi)
        intro e G' σ' a' w' h1 h2 h3
        cases e with
        | normal => exact ih G' _ a' w' (h1.keepV live) h2 h3.1 (by have := h3.2; omega)
        | _ => exact hr _ G' σ' a' w' h1 h2 h3
    exact wp_loop_rounds (μ (σ.keepV live) + 1) (key _ G _ a w (h.keepV live) hp h0 (by omega))
  | .join live x y, c, G₀, w₀, Q, Q', G, σ, a, w, hc, hr, h, hp, hw => by
    cases c <;> first | (simp [chk] at hc; done) | skip
    rename_i c1 c2
    simp only [chk, Bool.and_eq_true] at hc
    obtain ⟨J, h0, hJ⟩ := hw
    refine wp_seq (cwp_sound hD x c1 G₀ w₀ (joinK live J Q) _ G σ a w hc.1 ?_ h hp h0)
    intro e G' σ' a' w' h1 h2 h3
    cases e with
    | normal => exact cwp_sound hD y c2 G₀ w₀ Q Q' G' _ a' w' hc.2 hr (h1.keepV live) h2 (hJ _ h3)
    | _ => exact hr _ G' σ' a' w' h1 h2 h3
  | .exit id, c, G₀, w₀, Q, Q', G, σ, a, w, hc, hr, h, hp, hw => by
    cases c <;> first | (simp [chk] at hc; done) | skip
    simp only [chk, beq_iff_eq] at hc
    subst hc
    exact wp_exit (hr _ G σ a w h hp hw)
  | .scope x, c, G₀, w₀, Q, Q', G, σ, a, w, hc, hr, h, hp, hw => by
    cases c <;> first | (simp [chk] at hc; done) | skip
    rename_i c1
    simp only [chk] at hc
    have hw' : cwp P x (scopeK Q) σ := by
      have : (fun x τ => match x with | .goto _ => False | x => Q x τ) = scopeK Q := by
        funext e τ; cases e <;> rfl
      have hw' : cwp P x (fun x τ => match x with | .goto _ => False | x => Q x τ) σ := hw
      rw [this] at hw'
      exact hw'
    refine wp_scope_straight (cwp_sound hD x c1 G₀ w₀ (scopeK Q) _ G σ a w hc ?_ h hp hw')
    intro e G' σ' a' w' h1 h2 h3
    cases e with
    | goto l => exact h3
    | _ => exact hr _ G' σ' a' w' h1 h2 h3
  | .scopeJ l live x1 x2 x3 y, c, G₀, w₀, Q, Q', G, σ, a, w, hc, hr, h, hp, hw => by
    unfold chk at hc
    split at hc <;> try (cases hc; done)
    all_goals first | (rename_i he; cases he; done) | skip
    rename_i c1 m live' x1' x2' x3' y' he
    injection he with e1 e2 e3 e4 e5 e6
    subst e1; subst e2; subst e3; subst e4; subst e5; subst e6
    have hw' : cwp P x1 (seqK P x2 (seqK P x3 (scJK live (jlp P l live y Q) Q))) σ := by rw [← cwp_scopeJ]; exact hw
    let C : (St → Prop) → (St → Nat) → Prop := fun I μ => ∀ τ, I τ → cwp P y (jmpK l live (fun ρ' => I ρ' ∧ μ ρ' < μ τ) Q) τ
    have key : ∀ (L : List Code) (cr : Code), splitL c1 l = some (L, cr) → chk P n cr y = true →
        (∀ Q0 : Exit → Act → World → Prop, (∀ e a w, e ≠ .normal → (∃ G τ, Inv G n D τ a w ∧ Pres G₀ w₀ G w ∧ scJK live (jlp P l live y Q) Q e τ) → Q0 e a w) →
          (∀ a w, (∃ G τ, Inv G n D τ a w ∧ Pres G₀ w₀ G w ∧ jlp P l live y Q (τ.keepV live)) → ((Code.label l).seq cr).wp P Q0 a w) → (L.foldr Code.seq (.seq (.label l) cr)).wp P Q0 a w) →
        (Code.scope c1).wp P Q' a w := by
      intro L cr hsp hcr hfirst
      obtain ⟨hc1, hfl⟩ := splitL_eq _ hsp
      refine wp_scope_jumps l (fun a w => ∃ k, JumpAt n D G₀ w₀ C a w k) (leastJ n D G₀ w₀ C) hfl ?_ ?_
      · rw [hc1]
        refine hfirst _ (fun e a' w' he ⟨G', τ, h1, h2, h3⟩ => ?_) (fun a' w' ⟨G', τ, h1, h2, h3⟩ => ?_)
        · cases e with
          | goto l => exact h3.elim
          | normal => exact absurd rfl he
          | _ => exact hr _ G' τ a' w' h1 h2 h3
        · obtain ⟨I, μ, h4, hI⟩ := h3
          refine wp_seq (wp_label ?_)
          refine cwp_sound hD y cr G₀ w₀ _ _ G' _ a' w' hcr ?_ (h1.keepV live) h2 (hI _ h4)
          intro e G2 σ2 a2 w2 q1 q2 q3
          cases e with
          | goto l => exact ⟨q3.1, _, I, μ, G2, _, hI, q1.keepV live, q2, q3.2.1, Nat.le_refl _⟩
          | _ => exact hr _ G2 σ2 a2 w2 q1 q2 q3
      · intro a' w' hJ
        obtain ⟨I, μ, G', τ, hI, h1, h2, h3, h4⟩ := (leastJ_spec hJ).1
        refine wp_seq (wp_skip ?_)
        refine cwp_sound hD y cr G₀ w₀ _ _ G' τ a' w' hcr ?_ h1 h2 (hI _ h3)
        intro e G2 σ2 a2 w2 q1 q2 q3
        cases e with
        | goto l =>
          have hk : JumpAt n D G₀ w₀ C a2 w2 (μ (σ2.keepV live)) := ⟨I, μ, G2, _, hI, q1.keepV live, q2, q3.2.1, Nat.le_refl _⟩
          refine ⟨q3.1, ⟨_, hk⟩, ?_⟩
          have := (leastJ_spec ⟨_, hk⟩).2 _ hk
          have := q3.2.2
          omega
        | _ => exact hr _ G2 σ2 a2 w2 q1 q2 q3
    split at hc
    · rename_i cr hsp
      simp only [Bool.and_eq_true] at hc
      obtain ⟨k1, k2, k3, hcr⟩ := hc
      rw [isSkip_eq k1, isSkip_eq k2, isSkip_eq k3] at hw'
      exact key _ _ hsp hcr fun Q0 _ hb => hb _ _ ⟨G, σ, h, hp, hw'⟩
    · rename_i s1 cr hsp
      simp only [Bool.and_eq_true] at hc
      obtain ⟨k1, k2, k3, hcr⟩ := hc
      rw [isSkip_eq k2, isSkip_eq k3] at hw'
      refine key _ _ hsp hcr fun Q0 ha hb => wp_seq (cwp_sound hD x1 s1 G₀ w₀ _ _ G σ a w k1 ?_ h hp hw')
      intro e G' σ' a' w' h1 h2 h3
      cases e with
      | normal => exact hb _ _ ⟨G', σ', h1, h2, h3⟩
      | _ => exact ha _ _ _ (by simp) ⟨G', σ', h1, h2, h3⟩
    · rename_i s1 s2 cr hsp
      simp only [Bool.and_eq_true] at hc
      obtain ⟨k1, k2, k3, hcr⟩ := hc
      rw [isSkip_eq k3] at hw'
      refine key _ _ hsp hcr fun Q0 ha hb => wp_seq (cwp_sound hD x1 s1 G₀ w₀ _ _ G σ a w k1 ?_ h hp hw')
      intro e G' σ' a' w' h1 h2 h3
      cases e with
      | normal =>
        refine wp_seq (cwp_sound hD x2 s2 G₀ w₀ _ _ G' σ' a' w' k2 ?_ h1 h2 h3)
        intro e G' σ' a' w' h1 h2 h3
        cases e with
        | normal => exact hb _ _ ⟨G', σ', h1, h2, h3⟩
        | _ => exact ha _ _ _ (by simp) ⟨G', σ', h1, h2, h3⟩
      | _ => exact ha _ _ _ (by simp) ⟨G', σ', h1, h2, h3⟩
    · rename_i s1 s2 s3 cr hsp
      simp only [Bool.and_eq_true] at hc
      obtain ⟨k1, k2, k3, hcr⟩ := hc
      refine key _ _ hsp hcr fun Q0 ha hb => wp_seq (cwp_sound hD x1 s1 G₀ w₀ _ _ G σ a w k1 ?_ h hp hw')
      intro e G' σ' a' w' h1 h2 h3
      cases e with
      | normal =>
        refine wp_seq (cwp_sound hD x2 s2 G₀ w₀ _ _ G' σ' a' w' k2 ?_ h1 h2 h3)
        intro e G' σ' a' w' h1 h2 h3
        cases e with
        | normal =>
          refine wp_seq (cwp_sound hD x3 s3 G₀ w₀ _ _ G' σ' a' w' k3 ?_ h1 h2 h3)
          intro e G' σ' a' w' h1 h2 h3
          cases e with
          | normal => exact hb _ _ ⟨G', σ', h1, h2, h3⟩
          | _ => exact ha _ _ _ (by simp) ⟨G', σ', h1, h2, h3⟩
        | _ => exact ha _ _ _ (by simp) ⟨G', σ', h1, h2, h3⟩
      | _ => exact ha _ _ _ (by simp) ⟨G', σ', h1, h2, h3⟩
    · cases hc
  | .label l, c, G₀, w₀, Q, Q', G, σ, a, w, hc, hr, h, hp, hw => by
    cases c <;> first | (simp [chk] at hc; done) | skip
    exact wp_label (hr _ G σ a w h hp hw)
  | .goto l, c, G₀, w₀, Q, Q', G, σ, a, w, hc, hr, h, hp, hw => by
    cases c <;> first | (simp [chk] at hc; done) | skip
    simp only [chk, beq_iff_eq] at hc
    subst hc
    exact wp_goto (hr _ G σ a w h hp hw)
  | .dead, c, G₀, w₀, Q, Q', G, σ, a, w, hc, hr, h, hp, hw => (show False from hw).elim
  | .ret, c, G₀, w₀, Q, Q', G, σ, a, w, hc, hr, h, hp, hw => by
    cases c <;> first | (simp [chk] at hc; done) | skip
    exact wp_ret (hr _ G σ a w h hp hw)
end
end Go.AB
end

section
namespace Go.AB
open Go
structure IRes where
 t : Nat
 own : Bool
 cell : Option (Nat × Bool) := none
 deriving Inhabited
def resC (multi : Bool) : Option (List AV) → AV
 | some cs => aggOf multi cs
 | none => .undef
def resV (σ : St) (r : IRes) : AV := match r.cell with
 | none => bif r.own then look σ.e r.t else view (look σ.e r.t)
 | some (n, multi) => resC multi (rd σ (look σ.e r.t) n)
def resVs (σ : St) (res : List IRes) : List AV := res.map (resV σ)
def resIs (P : Program) : List ResultVar → List IRes → Bool
 | [], [] => true
 | .tmp t :: r, i :: s => t == i.t && i.cell.isNone && (!i.own || s.all fun j => !(j.own && j.t == i.t)) && resIs P r s
 | .cell t ty :: r, i :: s => t == i.t && !i.own && (match i.cell with
  | some (n, multi) => sizeIs P ty n && aggIs P ty multi && (multi || n == 1)
  | none => false) && resIs P r s
 | _, _ => false
def startE : Nat → List AV → List (Nat × AV)
 | _, [] => []
 | i, a :: r => (i, view a) :: startE (i + 1) r
def start (args : List AV) (s : Store) : St := { e := startE 0 args, lp := [], s := s }
def allV (cs : List AV) : Bool := cs.all isV
def retK (res : List IRes) (Q : List AV → Store → Prop) : Exit → St → Prop
 | .ret, σ => allV (resVs σ res) = true ∧ Q (resVs σ res) σ.s
 | .normal, σ => allV (resVs σ res) = true ∧ Q (resVs σ res) σ.s
 | _, _ => False
def fnIs (P : Program) (f : FuncId) (n : Nat) (res : List IRes) (ic : IC) : Bool := match P.funcs[f]? with
 | some fn => fn.ntmps == n && resIs P fn.results.toList res && (match fn.body with
  | some c => chk P n c ic
  | none => false)
 | none => false
section
variable {P : Program} {G G' : Gh} {n : Nat} {D : List Deferred} {σ : St} {a : Act} {w w' : World}
theorem look_startE (i : Nat) : ∀ (args : List AV) (k : Nat), look (startE k args) i = if k ≤ i then (match args[i - k]? with | some a => view a | none => .undef) else .undef
  | [], k => by
    show AV.undef = _
    split <;> simp
  | a :: r, k => by
    show look ((k, view a) :: startE (k + 1) r) i = _
    rw [look_cons, look_startE i r (k + 1)]
    by_cases h : k = i
    · subst h; simp
    · by_cases h2 : k ≤ i
      · have h3 : k + 1 ≤ i := by omega
        have h4 : i - k = (i - (k + 1)) + 1 := by omega
        rw [if_neg h, if_pos h3, if_pos h2, h4, List.getElem?_cons_succ]
      · rw [if_neg h, if_neg (by omega), if_neg h2]
theorem start_inv {args : List AV} {s : Store} {vs : Array Value} (hg : GoodW G w) (hs : StoreR G w s) (ha : ArgsR w G.R args vs) (hv : allV args = true) (hn : args.length ≤ n) :
    Inv G n [] (start args s) { tmps := vs ++ Array.replicate (n - vs.size) undef, defers := [] } w := by
  have hsz : vs.size = args.length := ha.1
  refine ⟨hg, hs, by simp; omega, fun i v hi => ?_, fun i hi => ?_, fun i t ht => ?_, rfl⟩
  · show ValS G w (startE 0 args) _ i (look (startE 0 args) i) v
    rw [look_startE, if_pos (Nat.zero_le _), Nat.sub_zero]
    cases hai : args[i]? with
    | none => exact ⟨.undef _, trivial⟩
    | some av =>
      have hlt : i < args.length := (List.getElem?_eq_some_iff.1 hai).1
      have hvi : vs[i]? = some v := by
        have hi' : (vs ++ Array.replicate (n - vs.size) undef)[i]? = some v := hi
        rw [Array.getElem?_append_left (by omega)] at hi'
        exact hi'
      have hV : isV av = true := by
        have := List.all_eq_true.1 hv
        exact this av (List.mem_of_getElem? hai)
      exact ValS.mk_view hV (ha.2 i av v hai hvi)
  · show look (startE 0 args) i = .undef
    rw [look_startE, if_pos (Nat.zero_le _), Nat.sub_zero, List.getElem?_eq_none (by omega)]
  · have ht' : holdsLp (look (startE 0 args) i) t := ht
    rw [look_startE, if_pos (Nat.zero_le _), Nat.sub_zero] at ht'
    cases hai : args[i]? with
    | none => rw [hai] at ht'; exact ht'.elim
    | some av =>
      rw [hai] at ht'
      have hV : isV av = true := List.all_eq_true.1 hv av (List.mem_of_getElem? hai)
      exact (not_holdsLp (isV_view hV) t ht').elim
def resAt : List IRes → Nat → Nat → Option Nat
 | [], _, _ => none
 | r :: s, k, i => bif r.own && r.t == i then some k else resAt s (k + 1) i
def outO (G : Gh) (res : List IRes) : Owner → Owner
 | .none => .none
 | .frame => .frame
 | .sh => .sh
 | .slot i j => (match j, resAt res 0 i with
  | 0, some k => .res k
  | _, _ => .none)
 | .cell b j => if G.O b = .sh then .cell b j else .none
 | _ => .none
theorem resIs_len : ∀ (vs : List ResultVar) (res : List IRes), resIs P vs res = true → vs.length = res.length
 | [], [], _ => rfl
 | v :: vs, r :: res, h => by
  have : resIs P vs res = true := by
   cases v <;> simp only [resIs, Bool.and_eq_true] at h <;> exact h.2
  simp [resIs_len vs res this]
 | [], _ :: _, h => by simp [resIs] at h
 | _ :: _, [], h => by simp [resIs] at h
theorem resAt_some : ∀ (vs : List ResultVar) (res : List IRes) (k j : Nat) (r : IRes), resIs P vs res = true → res[j]? = some r → r.own = true → resAt res k r.t = some (k + j)
  | v :: vs, r0 :: res, k, 0, r, _, hj, ho => by
    simp at hj; subst hj
    simp [resAt, ho]
  | v :: vs, r0 :: res, k, j + 1, r, h, hj, ho => by
    have hj' : res[j]? = some r := by simpa using hj
    have hrest : resIs P vs res = true := by
      cases v <;> simp only [resIs, Bool.and_eq_true] at h <;> exact h.2
    have hne : (r0.own && r0.t == r.t) = false := by
      cases hr0 : r0.own with
      | false => rfl
      | true =>
        cases v with
        | cell => simp [resIs, hr0] at h
        | tmp t =>
        simp only [resIs, Bool.and_eq_true] at h
        have h1 := h.1.2
        rw [hr0] at h1
        have h1' : ∀ x ∈ res, x.own = false ∨ ¬x.t = r0.t := by simpa using h1
        rcases h1' r (List.mem_of_getElem? hj') with e | e
        · rw [ho] at e; cases e
        · simpa using fun e' => e e'.symm
    show (bif r0.own && r0.t == r.t then some k else resAt res (k + 1) r.t) = _
    rw [hne]
    show resAt res (k + 1) r.t = _
    rw [resAt_some vs res (k + 1) j r hrest hj' ho]
    congr 1; omega
  | [], r0 :: res, _, _, _, h, _, _ => by simp [resIs] at h
  | _, [], _, _, _, _, hj, _ => by simp at hj
theorem ValS.of_view {G : Gh} {w : World} {e : List (Nat × AV)} {tmps : Array Value} {i : Nat} {a : AV} {v : Value} (h : isV a = true ∨ isV (view a) = true) : ValS G w e tmps i a v → (VR w G.R a v ∧ OwnR G w (.slot i 0) a v) := by
 cases a <;> simp_all [isV, view, ValS]
def resTuple (vs : Array Value) : Value := if h : vs.size = 1 then vs[0] else .tuple vs
theorem mapM_some {α β : Type} (f : α → Sem β) (w : World) : ∀ (l : List α) (vs : List β), l.length = vs.length → (∀ (j : Nat) (x : α) (v : β), l[j]? = some x → vs[j]? = some v → (f x).run P w = .ok v w) → (l.mapM f).run P w = .ok vs w
 | [], [], _, _ => by simp
 | x :: l, v :: vs, hl, h => by
  rw [List.mapM_cons]
  simp [h 0 x v rfl rfl, mapM_some f w l vs (by simpa using hl) (fun j y z hy hz => h (j + 1) y z (by simpa using hy) (by simpa using hz))]
 | [], _ :: _, hl, _ => by simp at hl
 | _ :: _, [], hl, _ => by simp at hl
def oneRes (tmps : Array Value) : ResultVar → Sem Value
 | .tmp t => pure (tmps.getD t undef)
 | .cell a t => do loadVar t (← asAddr (tmps.getD a undef))
theorem results_run {fn : Func} (tmps : Array Value) (w : World) (vs : List Value) (hl : fn.results.toList.length = vs.length) (h : ∀ (j : Nat) (x : ResultVar) (v : Value), fn.results.toList[j]? = some x → vs[j]? = some v → (oneRes tmps x).run P w = .ok v w) :
  (results fn tmps).run P w = .ok (resTuple vs.toArray) w := by
 have e : (fn.results.toList.mapM (oneRes tmps)).run P w = .ok vs w := mapM_some _ w _ _ hl h
 unfold results
 rw [Array.mapM_eq_mapM_toList]
 have key : ∀ F : ResultVar → Sem Value, F = oneRes tmps → (do let vs ← List.toArray <$> fn.results.toList.mapM F; pure (if h : vs.size = 1 then vs[0] else .tuple vs) : Sem Value).run P w = .ok (resTuple vs.toArray) w := by
  intro F hF
  subst hF
  simp only [Sem.run_bind, Sem.run_map, e, Result.andThen_ok]
  rfl
 exact key _ (by funext x; cases x <;> rfl)
theorem ret_fin {fn : Func} {res : List IRes} {Q : List AV → Store → Prop} {σ' : St} {a' : Act} (hres : resIs P fn.results.toList res = true) (h : Inv G' n D σ' a' w') (hp : Pres G w G' w') (hall : allV (resVs σ' res) = true) (hQ : Q (resVs σ' res) σ'.s) :
    ∃ v, (results fn a'.tmps).run P w' = .ok v w' ∧ ∃ v' rs s' G'', Ending.returned v = .returned v' ∧ Q rs s' ∧ GoodW G'' w' ∧ StoreR G'' w' s' ∧ ResR G'' w' rs v' ∧ Pres G w G'' w' := by
  let G2 : Gh := ⟨G'.R, fun b => outO G' res (G'.O b)⟩
  have hV : ∀ (j : Nat) (r : IRes), res[j]? = some r → isV (resV σ' r) = true := fun j r hj => by
    refine List.all_eq_true.1 hall _ ?_
    exact List.mem_map.2 ⟨r, List.mem_of_getElem? hj, rfl⟩
  have hlen := resIs_len _ _ hres
  have get : ∀ (vs : List ResultVar) (rs : List IRes), resIs P vs rs = true → ∀ (j : Nat) (x : ResultVar) (r : IRes), vs[j]? = some x → rs[j]? = some r →
      (x = .tmp r.t ∧ r.cell = none) ∨ ∃ ty n m, x = .cell r.t ty ∧ r.cell = some (n, m) ∧ r.own = false ∧ sizeIs P ty n = true ∧ aggIs P ty m = true ∧ (m || n == 1) = true := by
    intro vs
    induction vs with
    | nil => intro rs _ j x r hx; simp at hx
    | cons v vs ih =>
      intro rs hh j x r hx hr
      cases rs with
      | nil => simp at hr
      | cons r0 rs =>
        cases j with
        | succ j =>
          refine ih rs ?_ j x r (by simpa using hx) (by simpa using hr)
          cases v <;> simp only [resIs, Bool.and_eq_true] at hh <;> exact hh.2
        | zero =>
          simp at hx hr; subst hx; subst hr
          cases v with
          | tmp t =>
            simp only [resIs, Bool.and_eq_true, beq_iff_eq] at hh
            exact .inl ⟨by rw [hh.1.1.1], by simpa using hh.1.1.2⟩
          | cell t ty =>
            simp only [resIs, Bool.and_eq_true, beq_iff_eq] at hh
            obtain ⟨⟨⟨h1, h2⟩, h3⟩, _⟩ := hh
            split at h3
            · rename_i n m hc
              simp only [Bool.and_eq_true] at h3
              exact .inr ⟨ty, n, m, by rw [h1], hc, by simpa using h2, h3.1.1, h3.1.2, h3.2⟩
            · cases h3
  have hone : ∀ (j : Nat) (x : ResultVar) (r : IRes), fn.results.toList[j]? = some x → res[j]? = some r → ∃ v, (oneRes a'.tmps x).run P w' = .ok v w' ∧ VR w' G2.R (resV σ' r) v ∧ OwnR G2 w' (.res j) (resV σ' r) v := by
    intro j x r hx hj
    have hi := hV j r hj
    have hlk : look σ'.e r.t ≠ .undef := by
      intro e
      unfold resV at hi
      rw [e] at hi
      cases hr : r.cell with
      | none =>
        rw [hr] at hi
        cases ho : r.own with
        | true => rw [ho] at hi; cases hi
        | false => rw [ho] at hi; cases hi
      | some nm => rw [hr] at hi; obtain ⟨n1, m1⟩ := nm; cases hi
    have hlt : r.t < a'.tmps.size := by rw [h.size]; exact h.lt_of hlk
    rcases get _ _ hres j x r hx hj with ⟨rfl, hcell⟩ | ⟨ty, n1, m1, rfl, hcell, ho, hs1, ha1, h11⟩
    · refine ⟨a'.tmps.getD r.t undef, rfl, ?_⟩
      have hi' : isV (look σ'.e r.t) = true ∨ isV (view (look σ'.e r.t)) = true := by
        unfold resV at hi
        rw [hcell] at hi
        cases hr : r.own with
        | true => rw [hr] at hi; exact .inl hi
        | false => rw [hr] at hi; exact .inr hi
      have hs := h.slots r.t _ (eval_some hlt)
      replace hs := ValS.of_view hi' hs
      have he : a'.eval (.tmp r.t) = a'.tmps.getD r.t undef := rfl
      rw [he] at hs
      unfold resV
      rw [hcell]
      cases hr : r.own with
      | false => exact ⟨hs.1.view, OwnR.view ..⟩
      | true =>
        refine ⟨hs.1, ?_⟩
        have ho := hs.2
        show OwnR G2 w' (.res j) (look σ'.e r.t) _
        unfold OwnR at ho ⊢
        split
        · rename_i sz m cs hsl
          rw [hsl] at ho
          intro base m' cap hv hc
          obtain ⟨b, off, c, e, fz, q1, q2, q3⟩ := ho base m' cap hv hc
          refine ⟨b, off, c, e, fz, q1, ?_, q3⟩
          show outO G' res (G'.O b) = .res j
          rw [q2]
          have := resAt_some fn.results.toList res 0 j r hres hj hr
          simp [outO, this]
        · rename_i e m cs hsl
          rw [hsl] at ho
          intro base m' cap hv hc
          obtain ⟨b, off, c, fz, q1, q2, q3⟩ := ho base m' cap hv hc
          refine ⟨b, off, c, fz, q1, ?_, q3⟩
          show outO G' res (G'.O b) = .res j
          rw [q2]
          have := resAt_some fn.results.toList res 0 j r hres hj hr
          simp [outO, this]
        · trivial
    · unfold resV at hi ⊢
      rw [hcell] at hi ⊢
      have hb : BR G' w' σ' a' (.t r.t) (look σ'.e r.t) (a'.tmps.getD r.t undef) := by
        have := BR.of_inv h (o := .tmp r.t) (x := .t r.t) (by simp [chkX])
        have hun : xg true σ' (.t r.t) = unw true (look σ'.e r.t) := rfl
        rw [hun] at this
        generalize look σ'.e r.t = av at this hi
        cases av <;> first | exact this | (cases hi; done) | trivial
      have hi : isV (resC m1 (rd σ' (look σ'.e r.t) n1)) = true := hi
      show ∃ v, _ ∧ VR w' G2.R (resC m1 (rd σ' (look σ'.e r.t) n1)) v ∧ OwnR G2 w' (.res j) (resC m1 (rd σ' (look σ'.e r.t) n1)) v
      cases hrd : rd σ' (look σ'.e r.t) n1 with
      | none => rw [hrd] at hi; cases hi
      | some cs =>
        obtain ⟨b, off, e, hl, hat, hvw⟩ := rd_sound h hb hrd
        obtain ⟨v, hrun, hvr⟩ := loadVar_sound hs1 ha1 h11 hl hat
        refine ⟨v, ?_, hvr, ?_⟩
        · show (do loadVar ty (← asAddr (a'.tmps.getD r.t undef)) : Sem Value).run P w' = _
          rw [e]
          simp [asAddr, hrun]
        · have hview := view_aggOf (multi := m1) hvw
          show OwnR G2 w' (.res j) (aggOf m1 cs) v
          rw [← hview]; exact OwnR.view ..
  have hall2 : ∃ vs : List Value, fn.results.toList.length = vs.length ∧ ∀ (j : Nat) (x : ResultVar) (r : IRes) (v : Value), fn.results.toList[j]? = some x → res[j]? = some r → vs[j]? = some v → (oneRes a'.tmps x).run P w' = .ok v w' ∧ VR w' G2.R (resV σ' r) v ∧ OwnR G2 w' (.res j) (resV σ' r) v := by
    have hch : ∀ j : Fin fn.results.toList.length, ∃ v, ∀ (x : ResultVar) (r : IRes), fn.results.toList[j.1]? = some x → res[j.1]? = some r → (oneRes a'.tmps x).run P w' = .ok v w' ∧ VR w' G2.R (resV σ' r) v ∧ OwnR G2 w' (.res j.1) (resV σ' r) v := by
      intro j
      have hr : j.1 < res.length := by rw [← hlen]; exact j.2
      obtain ⟨v, hv⟩ := hone j.1 _ _ (List.getElem?_eq_getElem j.2) (List.getElem?_eq_getElem hr)
      refine ⟨v, fun x r hx hr' => ?_⟩
      rw [List.getElem?_eq_getElem j.2] at hx
      rw [List.getElem?_eq_getElem hr] at hr'
      injection hx with hx; injection hr' with hr'
      subst hx; subst hr'
      exact hv
    refine ⟨List.ofFn fun j => (hch j).choose, by simp, fun j x r v hx hr hv => ?_⟩
    have hj : j < fn.results.toList.length := (List.getElem?_eq_some_iff.1 hx).1
    have := (hch ⟨j, hj⟩).choose_spec x r hx hr
    simp only [List.getElem?_ofFn, hj, dite_true] at hv
    injection hv with hv
    rw [hv] at this
    exact this
  obtain ⟨vs, hvl, hvs⟩ := hall2
  refine ⟨_, results_run a'.tmps w' vs hvl (fun j x v hx hv => by
    have hj : j < res.length := by rw [← hlen]; exact (List.getElem?_eq_some_iff.1 hx).1
    exact (hvs j x _ v hx (List.getElem?_eq_getElem hj) hv).1), ?_⟩
  have hval : ∀ (j : Nat) (r : IRes) (v : Value), res[j]? = some r → vs[j]? = some v → VR w' G2.R (resV σ' r) v ∧ OwnR G2 w' (.res j) (resV σ' r) v := by
    intro j r v hr hv
    have hj : j < fn.results.toList.length := by rw [hvl]; exact (List.getElem?_eq_some_iff.1 hv).1
    exact (hvs j _ r v (List.getElem?_eq_getElem hj) hr hv).2
  have hvl2 : vs.length = res.length := by rw [← hvl, hlen]
  refine ⟨_, resVs σ' res, σ'.s, G2, rfl, hQ, ⟨fun b hb => ?_, h.good.newR⟩, ?_, ?_, ?_⟩
  · show outO G' res (G'.O b) = .none
    rw [h.good.newO b hb]; rfl
  · refine h.store.mono' (fun _ _ hv => hv) (fun b hb => ⟨?_, rfl, rfl⟩) (fun b c j hb hc => ⟨?_, rfl, rfl⟩)
    · show outO G' res (G'.O b) = .sh
      rw [hb]; rfl
    · show outO G' res (G'.O c) = .cell b j
      rw [hc]; simp [outO, hb]
  · match res, vs, hvl2, hval with
    | [], [], _, _ => exact ⟨#[], rfl, rfl, fun j x y hx => by simp [resVs] at hx⟩
    | [r], [v], _, hval =>
      have h1 := hval 0 r v rfl rfl
      have h2 := hV 0 r rfl
      show res1R G2 w' (resV σ' r) v
      generalize resV σ' r = av at h1 h2
      cases av <;> first | exact h1 | cases h2
    | r1 :: r2 :: rr, v1 :: v2 :: vv, hl2, hval =>
      refine ⟨_, rfl, by simpa [resVs] using hl2, fun j x y hx hy => ?_⟩
      have hx' : ((r1 :: r2 :: rr).map (resV σ'))[j]? = some x := hx
      rw [List.getElem?_map] at hx'
      cases hj : (r1 :: r2 :: rr)[j]? with
      | none => rw [hj] at hx'; cases hx'
      | some r =>
        rw [hj] at hx'
        injection hx' with hx'
        have hy' : (v1 :: v2 :: vv)[j]? = some y := by simpa using hy
        subst hx'
        exact hval j r y hj hy'
  · refine ⟨hp.os, hp.tape, hp.output, hp.drawn, hp.size, hp.mono, hp.stable, hp.frame, fun b hb ho => ?_, fun b hb ho => ?_⟩
    · obtain ⟨e1, e2⟩ := hp.frameO b hb ho
      exact ⟨by show outO G' res (G'.O b) = _; rw [e1]; rfl, e2⟩
    · obtain ⟨e1, e2⟩ := hp.noneO b hb ho
      exact ⟨by show outO G' res (G'.O b) = _; rw [e1]; rfl, e2⟩
theorem FN.of {f : FuncId} {res : List IRes} {ic : IC} {args : List AV} {s : Store} {Q : List AV → Store → Prop} (hD : DrawOK P n) (hf : fnIs P f n res ic = true) (hv : allV args = true) (hn : args.length ≤ n)
  (hw : cwp P ic (retK res Q) (start args s)) : FN P f args s Q := by
 intro G w vs hg ho hs ha
 unfold fnIs at hf
 split at hf <;> try (cases hf; done)
 rename_i fn hfn
 simp only [Bool.and_eq_true, beq_iff_eq] at hf
 obtain ⟨⟨rfl, hres⟩, hf⟩ := hf
 split at hf <;> try (cases hf; done)
 rename_i c hb
 refine calls_of_wp hfn hb (cwp_sound hD ic c G w (retK res Q) _ G _ _ w hf ?_ (start_inv hg hs ha hv hn) (Pres.refl G w) hw)
 intro x G' σ' a' w' h hp hq
 have fin : allV (resVs σ' res) = true ∧ Q (resVs σ' res) σ'.s → a'.defers = [] ∧ ∃ v, (results fn a'.tmps).run P w' = .ok v w' ∧ ∃ v' rs s' G'', Ending.returned v = .returned v' ∧ Q rs s' ∧ GoodW G'' w' ∧ StoreR G'' w' s' ∧ ResR G'' w' rs v' ∧ Pres G w G'' w' := by
  intro hq
  obtain ⟨hall, hQ⟩ := hq
  exact ⟨h.def0, ret_fin hres h hp hall hQ⟩
 cases x with
 | ret => exact fin hq
 | normal => exact fin hq
 | _ => exact hq.elim
end
end Go.AB
end

section
namespace Go.AB
open Go
theorem argsV_congr {f f' : IX → AV} : ∀ (xs : List IX), (∀ x ∈ xs, f x = f' x) → argsV f xs = argsV f' xs
 | [], _ => rfl
 | x :: xs, h => by
  show argC (f x) (argsV f xs) = argC (f' x) (argsV f' xs)
  rw [h x List.mem_cons_self, argsV_congr xs fun y hy => h y (List.mem_cons_of_mem _ hy)]
theorem fill_congr {f f' : IX → AV} : ∀ (ps : List (Nat × Nat × IX)) (cs : List AV), (∀ x ∈ ps.map (fun p => p.2.2), f x = f' x) → fill f cs ps = fill f' cs ps
 | [], _, _ => rfl
 | (off, n, x) :: ps, cs, h => by
  have h1 : f x = f' x := h x (by simp)
  have ih : ∀ cs, fill f cs ps = fill f' cs ps := fun cs => fill_congr ps cs fun y hy => h y (by simp only [List.map_cons, List.mem_cons]; exact .inr hy)
  unfold fill
  rw [h1]
  simp only [ih]
theorem ixV_congr {f f' : IX → AV} (o : Option IX) (d : Int) (h : ∀ x ∈ oX o, f x = f' x) : ixV f o d = ixV f' o d := by
 cases o with
 | none => rfl
 | some x => simp only [ixV, h x (by simp [oX])]
theorem pv_congr {o : IOp} {f f' : IX → AV} {σ σ' : St} (h : ∀ x ∈ opIX o, f x = f' x) (hx : ∀ x ∈ opIX o, σ.x x = σ'.x x) (hs : σ.s = σ'.s) (hrd : ∀ x ∈ opIX o, ∀ n, rd σ (f x) n = rd σ' (f x) n) : pv o f σ = pv o f' σ' := by
 cases o <;> (try rfl)
 case mov tr x => cases tr <;> first | rfl | (show movV (f x) = movV (f' x); rw [h x (by simp [opIX])])
 case pick c x y => show pickV (σ.x x) (σ.x y) (f c) = pickV (σ'.x x) (σ'.x y) (f' c); rw [h c (by simp [opIX]), hx x (by simp [opIX]), hx y (by simp [opIX])]
 case build z ps => show buildV (fill f z ps) = buildV (fill f' z ps); rw [fill_congr ps z h]
 case load n m x => show loadV m (rd σ (f x) n) = loadV m (rd σ' (f' x) n); rw [hrd x (by simp [opIX]), h x (by simp [opIX])]
 case loadI k x => show loadIP k σ.s (f x) = loadIP k σ'.s (f' x); rw [h x (by simp [opIX]), hs]
 case loadR z m x => show loadP z m σ.s (f x) = loadP z m σ'.s (f' x); rw [h x (by simp [opIX]), hs]
 case cvtStr x => show cvtStrV (f x) = cvtStrV (f' x); rw [h x (by simp [opIX])]
 case nilCheck x => show nilCheckV (f x) = nilCheckV (f' x); rw [h x (by simp [opIX])]
 case bin b x y => show binV b (f x) (f y) = binV b (f' x) (f' y); rw [h x (by simp [opIX]), h y (by simp [opIX])]
 case eqB b x y => show eqBV b (f x) (f y) = eqBV b (f' x) (f' y); rw [h x (by simp [opIX]), h y (by simp [opIX])]
 case eqP b x y => show eqPV b (f x) (f y) = eqPV b (f' x) (f' y); rw [h x (by simp [opIX]), h y (by simp [opIX])]
 case eqS b x y => unfold pv; split <;> simp_all [opIX]
 case un u x => show unV u (f x) = unV u (f' x); rw [h x (by simp [opIX])]
 case cvtInt k x => show cvtIntV k (f x) = cvtIntV k (f' x); rw [h x (by simp [opIX])]
 case cvtId x => show cvtIdV (f x) = cvtIdV (f' x); rw [h x (by simp [opIX])]
 case field n m off x => show fieldV n m off (f x) = fieldV n m off (f' x); rw [h x (by simp [opIX])]
 case index n m l x i => show indexV n m l (f x) (f i) = indexV n m l (f' x) (f' i); rw [h x (by simp [opIX]), h i (by simp [opIX])]
 case sindex x i => show sindexV (f x) (f i) = sindexV (f' x) (f' i); rw [h x (by simp [opIX]), h i (by simp [opIX])]
 case fieldAddr off x => show fieldAddrV off x (f x) = fieldAddrV off x (f' x); rw [h x (by simp [opIX])]
 case indexAddr sz x i => show indexAddrV sz (f x) (f i) = indexAddrV sz (f' x) (f' i); rw [h x (by simp [opIX]), h i (by simp [opIX])]
 case aindexAddr sz l x i => show aindexAddrV sz l x (f x) (f i) = aindexAddrV sz l x (f' x) (f' i); rw [h x (by simp [opIX]), h i (by simp [opIX])]
 case slice sz x lo hi mx =>
  cases mx with
  | some m =>
   have e1 := ixV_congr (f := f) (f' := f') lo 0 fun y hy => h y (by simp [opIX, hy])
   have e2 := ixV_congr (f := f) (f' := f') hi 0 fun y hy => h y (by simp [opIX, hy])
   have e3 := ixV_congr (f := f) (f' := f') (some m) 0 fun y hy => h y (by simp [opIX, hy])
   show slice3V sz f lo hi m (f x) = slice3V sz f' lo hi m (f' x)
   rw [h x (by simp [opIX])]
   unfold slice3V
   simp only [e1, e2, e3]
  | none =>
   have e1 := ixV_congr (f := f) (f' := f') lo 0 fun y hy => h y (by simp [opIX, hy])
   have e2 := fun d => ixV_congr (f := f) (f' := f') hi d fun y hy => h y (by simp [opIX, hy])
   show sliceV sz f lo hi (f x) = sliceV sz f' lo hi (f' x)
   rw [h x (by simp [opIX])]
   unfold sliceV
   simp only [e1, e2]
 case sslice x lo hi =>
  have e1 := ixV_congr (f := f) (f' := f') lo 0 fun y hy => h y (by simp [opIX, hy])
  have e2 := fun d => ixV_congr (f := f) (f' := f') hi d fun y hy => h y (by simp [opIX, hy])
  show sliceStrV f lo hi (f x) = sliceStrV f' lo hi (f' x)
  rw [h x (by simp [opIX])]
  unfold sliceStrV
  simp only [e1, e2]
 case eqA n b x y => show eqAV n b (f x) (f y) = eqAV n b (f' x) (f' y); rw [h x (by simp [opIX]), h y (by simp [opIX])]
 case eqI b x => show eqIV b (f x) = eqIV b (f' x); rw [h x (by simp [opIX])]
 case eqF b x => show eqFV b (f x) = eqFV b (f' x); rw [h x (by simp [opIX])]
 case cap x => show capV (f x) = capV (f' x); rw [h x (by simp [opIX])]
 case extract x k => show extractV k (f x) = extractV k (f' x); rw [h x (by simp [opIX])]
 case len c x => show lenV σ.s c (f x) = lenV σ'.s c (f' x); rw [h x (by simp [opIX]), hs]
 case minmax m xs =>
  show minmaxV m (xs.map f) = minmaxV m (xs.map f')
  rw [show xs.map f = xs.map f' from List.map_congr_left h]
 case makeFn fi xs ys =>
  show makeFnV fi (argsV f xs) (argsV f ys) = makeFnV fi (argsV f' xs) (argsV f' ys)
  rw [argsV_congr xs fun x hx => h x (by simp [opIX, hx]), argsV_congr ys fun x hx => h x (by simp [opIX, hx])]
def dr (o : IOper) (σ : St) : St := match o.op with
 | .mov true x => σ.drain x
 | _ => σ
def step (σ : St) (o : IOper) (v : AV) : St := (lpReg (dr o σ) v o.dst).put o.dst v
theorem dr_qv {o : IOper} {σ : St} (h : qv o σ ≠ .no) : dr o σ = σ := by
  obtain ⟨d, op, g⟩ := o
  unfold dr
  split
  · rename_i x hop
    simp only at hop
    subst hop
    refine absurd ?_ h
    cases g with
    | none => rfl
    | some tw =>
      obtain ⟨t, want⟩ := tw
      show qvG (.mov true x) want σ (look σ.e t) = .no
      unfold qvG
      split <;> rfl
  · rfl
inductive Y (P : Program) (σ : St) : IOper → AV → Prop where
 | pure (o : IOper) (v : AV) (h : (qv o σ = .tot v ∨ ∃ c, qv o σ = .prt c v ∧ c)) : Y P σ o v
 | mov (d : Option Nat) (x : IX) (h : isV (σ.x x) = true) : Y P σ ⟨d, .mov true x, none⟩ (σ.x x)
 | call (d : Option Nat) (f : Nat) (args : List IX) (as rs : List AV) (h1 : argsV (xg true σ) args = some as) (h2 : rsOK rs = true) (h3 : FE P f as σ.s rs σ.s) : Y P σ ⟨d, .call f args, none⟩ (retV rs)
 | callG (d : Option Nat) (f : Nat) (args : List IX) (t : Nat) (want g0 b : Bool) (rs : List AV) (h0 : gv1 (look σ.e t) = some (g0, b)) (h2 : rsOK rs = true)
   (h1 : (g0 && (b == want)) = true → ∃ as, argsV (xg true σ) args = some as ∧ FE P f as σ.s rs σ.s) : Y P σ ⟨d, .call f args, some (t, want)⟩ (.when (g0 && (b == want)) (retV rs))
 | callv (d : Option Nat) (x : IX) (args : List IX) (f : Nat) (as rs : List AV) (h1 : callee x args true σ f as) (hf : fnOK P f = true) (h2 : rsOK rs = true) (h3 : FE P f as σ.s rs σ.s) : Y P σ ⟨d, .callv x args, none⟩ (retV rs)
 | callvG (d : Option Nat) (x : IX) (args : List IX) (t : Nat) (want g0 b : Bool) (rs : List AV) (h0 : gv1 (look σ.e t) = some (g0, b)) (h2 : rsOK rs = true)
   (h1 : (g0 && (b == want)) = true → ∃ f as, callee x args true σ f as ∧ fnOK P f = true ∧ FE P f as σ.s rs σ.s) : Y P σ ⟨d, .callv x args, some (t, want)⟩ (.when (g0 && (b == want)) (retV rs))
 | eff (o : IOper) (v : AV) (h : (qeO o σ = .tot v ∨ ∃ c, qeO o σ = .prt c v ∧ c)) : Y P σ o v
theorem qvG_gv {o : IOp} {want : Bool} {σ : St} {a : AV} : (∃ g b, gv1 a = some (g, b) ∧ qvG o want σ a = wPQ (rdO o) (g && (b == want)) (pv o (xg (g && (b == want)) σ) σ)) ∨ qvG o want σ a = .no := by
  unfold qvG
  split
  · exact .inl ⟨_, _, rfl, rfl⟩
  · exact .inl ⟨_, _, rfl, rfl⟩
  · exact .inr rfl
theorem qeG_gv {o : IOp} {want : Bool} {σ : St} {a : AV} : (∃ g b, gv1 a = some (g, b) ∧ qeG o want σ a = wPR (g && (b == want)) (qe (xg (g && (b == want)) σ) σ.s o)) ∨ qeG o want σ a = .no := by
  unfold qeG
  split
  · exact .inl ⟨_, _, rfl, rfl⟩
  · exact .inl ⟨_, _, rfl, rfl⟩
  · exact .inr rfl
theorem gsel_gv {P : Program} {o : IOp} {d : Option Nat} {t : Nat} {want : Bool} {σ : St} {K : St → Prop} {a : AV} {g b : Bool} (h : gv1 a = some (g, b)) : gsel P o d t want σ K a = nxg P (g && (b == want)) o σ d K (pv o (xg (g && (b == want)) σ) σ) := by
  unfold gv1 at h
  split at h
  · injection h with h; injection h with h1 h2; subst h1; subst h2; rfl
  · injection h with h; injection h with h1 h2; subst h1; subst h2; rfl
  · cases h
theorem plainV_facts {v : AV} (h : plainV v = true) : notLoc v = true ∧ (∀ t, ¬ holdsLp v t) ∧ (∀ τ d, lpReg τ v d = τ) := by
 cases v <;> first | (simp [plainV, isV] at h; done) | exact ⟨rfl, fun t h => h, fun τ d => by cases d <;> rfl⟩
theorem qe_plain {f : IX → AV} {s : Store} {o : IOp} {v : AV} (h : qe f s o = .tot v ∨ ∃ c, qe f s o = .prt c v) : plainV v = true ∧ (∀ g τ, pv o g τ = .no) ∧ (∀ x, o ≠ .mov true x) := by
  have tt : ∀ {r : PR} {u : AV}, r = .tot u → (r = .tot v ∨ ∃ c, r = .prt c v) → v = u := by
    intro r u hr h
    subst hr
    rcases h with h | ⟨c, h⟩
    · injection h with h; exact h.symm
    · cases h
  have tp : ∀ {r : PR} {u : AV} {c : Prop}, r = .prt c u → (r = .tot v ∨ ∃ c, r = .prt c v) → v = u := by
    intro r u c hr h
    subst hr
    rcases h with h | ⟨c', h⟩
    · cases h
    · injection h with _ h; exact h.symm
  have tn : ∀ {r : PR}, r = .no → ¬ (r = .tot v ∨ ∃ c, r = .prt c v) := by
    intro r hr h
    subst hr
    rcases h with h | ⟨c', h⟩ <;> cases h
  have ok : ∀ (k : Bool) (a : AV) (b : Bool), (k = false → isV a = true) → plainV (okV k a b) = true := by
    intro k a b ha
    cases k with
    | true => rfl
    | false => show plainV a = true; have := ha rfl; cases a <;> first | exact this | rfl
  unfold qe at h
  split at h
  · rename_i x
    refine ⟨?_, fun g τ => rfl, fun x h => by cases h⟩
    cases hx : f x <;> rw [hx] at h <;> first | (exact absurd h (tn rfl)) | (rw [tt rfl h]; rfl)
  · rename_i sz n z ps
    refine ⟨?_, fun g τ => rfl, fun x h => by cases h⟩
    cases hx : fill f z ps <;> rw [hx] at h
    · exact absurd h (tn rfl)
    · rw [tp rfl h]; rfl
  · rename_i kk zero k x ky
    refine ⟨?_, fun g τ => rfl, fun x h => by cases h⟩
    have ck : ∀ {c : Prop} {a : AV} {b : Bool}, (ckL k c (okV k a b) = .tot v ∨ ∃ c', ckL k c (okV k a b) = .prt c' v) → plainV v = true := by
      intro c a b h
      unfold ckL at h
      cases hp : plainL k (okV k a b) with
      | false => rw [hp] at h; exact absurd h (tn rfl)
      | true =>
        rw [hp] at h
        rw [tp rfl h]
        refine ok k a b fun hk => ?_
        subst hk; exact hp
    have ck' : ∀ {c : Prop} {o : Option AV}, (ckL k c (lookV zero k o) = .tot v ∨ ∃ c', ckL k c (lookV zero k o) = .prt c' v) → plainV v = true := by
      intro c o h
      cases o with
      | none => exact ck h
      | some a => exact ck h
    unfold lookupV at h
    split at h
    · unfold lookupO at h
      split at h
      · exact ck' h
      · exact absurd h (tn rfl)
    · exact ck h
    · exact absurd h (tn rfl)
  · rename_i x
    refine ⟨?_, fun g τ => rfl, fun x h => by cases h⟩
    unfold rowV at h
    split at h
    · rw [tt rfl h]; rfl
    · exact absurd h (tn rfl)
  · rename_i x
    refine ⟨?_, fun g τ => rfl, fun x h => by cases h⟩
    unfold tupV at h
    split at h
    · rw [tt rfl h]; rfl
    · exact absurd h (tn rfl)
  · exact absurd h (tn rfl)
theorem qeO_v {o : IOper} {σ : St} {v : AV} (h : qeO o σ = .tot v ∨ ∃ c, qeO o σ = .prt c v ∧ c) :
    notLoc v = true ∧ (∀ t, ¬ holdsLp v t) ∧ (∀ τ d, lpReg τ v d = τ) ∧ dr o σ = σ := by
  obtain ⟨d, op, g⟩ := o
  have hdr : (∀ x, op ≠ .mov true x) → dr ⟨d, op, g⟩ σ = σ := by
    intro h
    unfold dr
    split
    · rename_i x hx; exact absurd hx (h x)
    · rfl
  have wk : ∀ {r : PR}, (r = .tot v ∨ ∃ c, r = .prt c v ∧ c) → (r = .tot v ∨ ∃ c, r = .prt c v) := fun h => h.imp id fun ⟨c, h, _⟩ => ⟨c, h⟩
  cases g with
  | none =>
    have h' : qe (xg true σ) σ.s op = .tot v ∨ ∃ c, qe (xg true σ) σ.s op = .prt c v := wk h
    obtain ⟨h1, _, h3⟩ := qe_plain h'
    obtain ⟨f1, f2, f3⟩ := plainV_facts h1
    exact ⟨f1, f2, f3, hdr h3⟩
  | some tw =>
    obtain ⟨t, want⟩ := tw
    have h' : qeG op want σ (look σ.e t) = .tot v ∨ ∃ c, qeG op want σ (look σ.e t) = .prt c v := wk h
    rcases qeG_gv (o := op) (want := want) (σ := σ) (a := look σ.e t) with ⟨g0, b, hg0, hl⟩ | hl <;> rw [hl] at h'
    case inr => rcases h' with h' | ⟨c, h'⟩ <;> cases h'
    generalize (g0 && (b == want)) = gg at h'
    have h2 : wPR gg (qe (xg gg σ) σ.s op) = .tot v ∨ ∃ c, wPR gg (qe (xg gg σ) σ.s op) = .prt c v := h'
    have : ∃ u, v = .when gg u ∧ (qe (xg gg σ) σ.s op = .tot u ∨ ∃ c, qe (xg gg σ) σ.s op = .prt c u) := by
      cases hq : qe (xg gg σ) σ.s op with
      | tot u =>
        rw [hq] at h2
        refine ⟨u, ?_, .inl rfl⟩
        rcases h2 with h2 | ⟨c, h2⟩
        · injection h2 with h2; exact h2.symm
        · cases h2
      | prt c u =>
        rw [hq] at h2
        refine ⟨u, ?_, .inr ⟨c, rfl⟩⟩
        rcases h2 with h2 | ⟨c, h2⟩
        · cases h2
        · injection h2 with _ h2; exact h2.symm
      | no => rw [hq] at h2; rcases h2 with h2 | ⟨c, h2⟩ <;> cases h2
    obtain ⟨u, rfl, hu⟩ := this
    obtain ⟨h1, _, h3⟩ := qe_plain hu
    obtain ⟨f1, f2, f3⟩ := plainV_facts h1
    exact ⟨rfl, fun t ht => f2 t ht, fun τ d => f3 τ d, hdr h3⟩
section
variable {P : Program} {G G' : Gh} {n : Nat} {D : List Deferred} {σ σ' : St} {a : Act} {w w' : World}
theorem retV_lp {rs : List AV} (h : rsOK rs = true) (σ : St) (d : Option Nat) : lpReg σ (retV rs) d = σ := by
 match rs, h with
 | [], _ => cases d <;> rfl
 | [r], h =>
  show lpReg σ r d = σ
  cases r <;> first | (cases d <;> rfl) | (simp [rsOK, isV, isUs] at h)
 | _ :: _ :: _, _ => cases d <;> rfl
theorem isV_noLp {r : AV} (hr : isV r = true) (σ : St) (d : Option Nat) : lpReg σ r d = σ := by
 cases r <;> first | (cases d <;> rfl) | (simp [isV] at hr)
theorem retV_notLoc {rs : List AV} (h : rsOK rs = true) : notLoc (retV rs) = true := by
 match rs, h with
 | [], _ => rfl
 | [r], h =>
  show notLoc r = true
  cases r <;> first | rfl | (simp [rsOK, isV, isUs] at h)
 | _ :: _ :: _, _ => rfl
theorem q1_inv {o : IOper} {K : St → Prop} (h : q1 P o σ K) : ∃ v, notLoc v = true ∧ Y P σ o v ∧ K (step σ o v) := by
  have gen : qK σ o.dst K (qv o σ) → ∃ v, notLoc v = true ∧ Y P σ o v ∧ K (step σ o v) := by
    intro hq
    cases hv : qv o σ with
    | tot v => rw [hv] at hq; exact ⟨v, hq.1, .pure o v (.inl hv), by unfold step; rw [dr_qv (by rw [hv]; simp)]; exact hq.2⟩
    | prt c v => rw [hv] at hq; exact ⟨v, hq.2.1, .pure o v (.inr ⟨c, hv, hq.1⟩), by unfold step; rw [dr_qv (by rw [hv]; simp)]; exact hq.2.2⟩
    | no => rw [hv] at hq; exact hq.elim
  have gene : ∀ {o : IOper}, qK σ o.dst K (qeO o σ) → ∃ v, notLoc v = true ∧ Y P σ o v ∧ K (step σ o v) := by
    intro o hq
    cases hv : qeO o σ with
    | tot v => rw [hv] at hq; exact ⟨v, hq.1, .eff o v (.inl hv), by unfold step; rw [(qeO_v (.inl hv)).2.2.2]; exact hq.2⟩
    | prt c v => rw [hv] at hq; exact ⟨v, hq.2.1, .eff o v (.inr ⟨c, hv, hq.1⟩), by unfold step; rw [(qeO_v (.inr ⟨c, hv, hq.1⟩)).2.2.2]; exact hq.2.2⟩
    | no => rw [hv] at hq; exact hq.elim
  unfold q1 at h
  split at h
  · rename_i d f args
    cases ha : argsV (xg true σ) args with
    | none => rw [ha] at h; exact h.elim
    | some as =>
      rw [ha] at h
      obtain ⟨rs, h2, h3, h4⟩ := h
      refine ⟨_, retV_notLoc h2, .call d f args as rs ha h2 h3, ?_⟩
      show K ((lpReg σ (retV rs) d).put d (retV rs))
      rw [retV_lp h2]; exact h4
  · rename_i d x
    obtain ⟨h1, h2⟩ := h
    refine ⟨_, ?_, .mov d x h1, ?_⟩
    · generalize σ.x x = av at h1
      cases av <;> first | rfl | (simp [isV] at h1)
    · show K ((lpReg (σ.drain x) (σ.x x) d).put d (σ.x x))
      rw [isV_noLp h1]; exact h2
  · rename_i d f args t want
    have h : ∃ g0 b, gv1 (look σ.e t) = some (g0, b) ∧ ∃ rs, rsOK rs = true ∧ ((g0 && (b == want)) = true → ∃ as, argsV (xg (g0 && (b == want)) σ) args = some as ∧ FE P f as σ.s rs σ.s) ∧ K (σ.put d (.when (g0 && (b == want)) (retV rs))) := by
      unfold qCallG at h
      split at h
      · rename_i b hl; exact ⟨true, b, by rw [hl]; rfl, h⟩
      · rename_i g b hl; exact ⟨g, b, by rw [hl]; rfl, h⟩
      · exact h.elim
    obtain ⟨g0, b, hl, rs, h2, h3, h4⟩ := h
    refine ⟨_, rfl, .callG d f args t want g0 b rs hl h2 (fun hb => by
      obtain ⟨as, q1, q2⟩ := h3 hb
      rw [hb] at q1
      exact ⟨as, q1, q2⟩), ?_⟩
    have : lpReg σ (.when (g0 && (b == want)) (retV rs)) d = σ := retV_lp h2 σ d
    show K ((lpReg σ (.when (g0 && (b == want)) (retV rs)) d).put d (.when (g0 && (b == want)) (retV rs)))
    rw [this]; exact h4
  · rename_i d x args
    cases hx : xg true σ x <;> rw [hx] at h <;> try exact h.elim
    rename_i f first caps
    cases ha : argsV (xg true σ) args with
    | none => rw [ha] at h; exact h.elim
    | some as =>
      rw [ha] at h
      obtain ⟨hf, rs, h2, h3, h4⟩ := h
      refine ⟨_, retV_notLoc h2, .callv d x args f _ rs ⟨first, caps, as, hx, ha, rfl⟩ hf h2 h3, ?_⟩
      show K ((lpReg σ (retV rs) d).put d (retV rs))
      rw [retV_lp h2]; exact h4
  · rename_i d x args t want
    have h : ∃ g0 b, gv1 (look σ.e t) = some (g0, b) ∧ ∃ rs, rsOK rs = true ∧ ((g0 && (b == want)) = true → ∃ f as, callee x args (g0 && (b == want)) σ f as ∧ fnOK P f = true ∧ FE P f as σ.s rs σ.s) ∧ K (σ.put d (.when (g0 && (b == want)) (retV rs))) := by
      unfold qCallvG at h
      split at h
      · rename_i b hl; exact ⟨true, b, by rw [hl]; rfl, h⟩
      · rename_i g b hl; exact ⟨g, b, by rw [hl]; rfl, h⟩
      · exact h.elim
    obtain ⟨g0, b, hl, rs, h2, h3, h4⟩ := h
    refine ⟨_, rfl, .callvG d x args t want g0 b rs hl h2 (fun hb => by
      obtain ⟨f, as, q1, q2⟩ := h3 hb
      rw [hb] at q1
      exact ⟨f, as, q1, q2⟩), ?_⟩
    have : lpReg σ (.when (g0 && (b == want)) (retV rs)) d = σ := retV_lp h2 σ d
    show K ((lpReg σ (.when (g0 && (b == want)) (retV rs)) d).put d (.when (g0 && (b == want)) (retV rs)))
    rw [this]; exact h4
  · exact gene h
  · exact gene h
  · exact gene h
  · exact gene h
  · exact gene h
  · exact gen h
end
end Go.AB
end

section
namespace Go.AB
open Go
theorem mem_ixSlots {i : Nat} : ∀ {l : List IX}, IX.t i ∈ l → i ∈ ixSlots l
  | .t j :: r, h => by
    rcases List.mem_cons.1 h with h | h
    · injection h with h; subst h; exact List.mem_cons_self
    · exact List.mem_cons_of_mem _ (mem_ixSlots h)
  | .c a :: r, h => by
    rcases List.mem_cons.1 h with h | h
    · cases h
    · exact mem_ixSlots (l := r) h
section
variable {P : Program} {G G' : Gh} {n : Nat} {D : List Deferred} {σ σ' : St} {a : Act} {w w' : World}
structure Agr (o : IOper) (σ σ' : St) : Prop where
 xs : ∀ x ∈ opIX o.op, σ.x x = σ'.x x
 g : ∀ t want, o.g = some (t, want) → look σ.e t = look σ'.e t
 s : σ.s = σ'.s
 rd : ∀ x ∈ opIX o.op, ∀ g n, rd σ (AB.xg g σ x) n = rd σ' (AB.xg g σ x) n
theorem Agr.symm {o : IOper} (h : Agr o σ σ') : Agr o σ' σ := ⟨fun x hx => (h.xs x hx).symm, fun t w hg => (h.g t w hg).symm, h.s.symm, fun x hx g n => by
 have e : AB.xg g σ' x = AB.xg g σ x := by unfold AB.xg; rw [h.xs x hx]
 rw [e]; exact (h.rd x hx g n).symm⟩
theorem Agr.xg {o : IOper} (h : Agr o σ σ') (g : Bool) : ∀ x ∈ opIX o.op, xg g σ x = xg g σ' x := fun x hx => by unfold AB.xg; rw [h.xs x hx]
theorem Agr.qv {o : IOper} (h : Agr o σ σ') : qv o σ = qv o σ' := by
  have hp : ∀ g, pv o.op (AB.xg g σ) σ = pv o.op (AB.xg g σ') σ' := fun g => pv_congr (h.xg g) h.xs h.s fun x hx n => h.rd x hx g n
  unfold AB.qv
  cases hg : o.g with
  | none => exact hp true
  | some tw =>
    obtain ⟨t, want⟩ := tw
    show qvG o.op want σ (look σ.e t) = qvG o.op want σ' (look σ'.e t)
    rw [h.g t want hg]
    unfold qvG
    split
    · rw [hp]
    · rw [hp]
    · rfl
theorem Agr.qe {o : IOper} (h : Agr o σ σ') (g : Bool) : qe (AB.xg g σ) σ.s o.op = qe (AB.xg g σ') σ'.s o.op := by
 have hx := h.xg g
 have hs := h.s
 obtain ⟨d, op, gg⟩ := o
 cases op <;> first | rfl | skip
 case cvtBytes x => show bytesPR (AB.xg g σ x) = bytesPR (AB.xg g σ' x); rw [hx x (by simp [opIX])]
 case buildSl sz n z ps => show rowPR sz n (fill (AB.xg g σ) z ps) = rowPR sz n (fill (AB.xg g σ') z ps); rw [fill_congr ps z hx]
 case lookup kk z ok x k => show lookupV kk z ok σ.s (AB.xg g σ k) (AB.xg g σ x) = lookupV kk z ok σ'.s (AB.xg g σ' k) (AB.xg g σ' x); rw [hx x (by simp [opIX]), hx k (by simp [opIX]), hs]
 case movT x => show tupV (AB.xg g σ x) = tupV (AB.xg g σ' x); rw [hx x (by simp [opIX])]
 case cvtRow x => show rowV (AB.xg g σ x) = rowV (AB.xg g σ' x); rw [hx x (by simp [opIX])]
theorem Agr.qeO {o : IOper} (h : Agr o σ σ') : qeO o σ = qeO o σ' := by
  unfold AB.qeO
  cases hg : o.g with
  | none => exact h.qe true
  | some tw =>
    obtain ⟨t, want⟩ := tw
    show qeG o.op want σ (look σ.e t) = qeG o.op want σ' (look σ'.e t)
    rw [h.g t want hg]
    unfold qeG
    split
    · rw [h.qe]
    · rw [h.qe]
    · rfl
theorem Y.agr {o : IOper} {v : AV} (hy : Y P σ o v) (h : Agr o σ σ') : Y P σ' o v := by
 cases hy with
 | pure _ _ hq => exact .pure o v (by rw [← h.qv]; exact hq)
 | mov d x hi =>
  have hx : σ.x x = σ'.x x := h.xs x (by simp [opIX])
  rw [hx] at hi ⊢
  exact .mov d x hi
 | call d f args as rs h1 h2 h3 => exact .call d f args as rs (by rw [← argsV_congr args (h.xg true)]; exact h1) h2 (by rw [← h.s]; exact h3)
 | callG d f args t want g0 b rs h0 h2 h1 =>
  refine .callG d f args t want g0 b rs (by rw [← h.g t want rfl]; exact h0) h2 fun hb => ?_
  obtain ⟨as, q1, q2⟩ := h1 hb
  exact ⟨as, by rw [← argsV_congr args (h.xg true)]; exact q1, by rw [← h.s]; exact q2⟩
 | callv d x args f as rs h1 hf h2 h3 =>
  obtain ⟨first, caps, xs, q1, q2, q3⟩ := h1
  exact .callv d x args f as rs ⟨first, caps, xs, by rw [← h.xg true x List.mem_cons_self]; exact q1, by rw [← argsV_congr args fun y hy => h.xg true y (List.mem_cons_of_mem _ hy)]; exact q2, q3⟩ hf h2 (by rw [← h.s]; exact h3)
 | callvG d x args t want g0 b rs h0 h2 h1 =>
  refine .callvG d x args t want g0 b rs (by rw [← h.g t want rfl]; exact h0) h2 fun hb => ?_
  obtain ⟨f, as, ⟨first, caps, xs, q1, q2, q3⟩, q4, q5⟩ := h1 hb
  exact ⟨f, as, ⟨first, caps, xs, by rw [← h.xg true x List.mem_cons_self]; exact q1, by rw [← argsV_congr args fun y hy => h.xg true y (List.mem_cons_of_mem _ hy)]; exact q2, q3⟩, q4, by rw [← h.s]; exact q5⟩
 | eff _ _ hq => exact .eff o v (by rw [← h.qeO]; exact hq)
theorem look_dr (o : IOper) (i : Nat) : look (dr o σ).e i = if drained o i = true then view (look σ.e i) else look σ.e i := by
  unfold dr drained
  split
  · rename_i x hop
    cases x with
    | c a => simp only [hop]; rfl
    | t j =>
      simp only [hop]
      show look ((j, view (look σ.e j)) :: σ.e) i = _
      rw [look_cons]
      by_cases hj : j = i
      · subst hj; simp
      · simp [hj]
  · rename_i hop
    split
    · rename_i j hop'
      exact absurd hop' (hop (.t j))
    · simp
theorem look_step (o : IOper) (v : AV) (i : Nat) : look (step σ o v).e i = if o.dst = some i then v else if drained o i = true then view (look σ.e i) else look σ.e i := by
 unfold step
 rw [← look_dr]
 cases hd : o.dst with
 | none => simp [St.put, (lpReg_same (dr o σ) v none).1]
 | some d =>
  show look ((d, v) :: (lpReg (dr o σ) v (some d)).e) i = _
  rw [look_cons, (lpReg_same (dr o σ) v (some d)).1]
  simp
theorem dr_s (o : IOper) : (dr o σ).s = σ.s ∧ (dr o σ).lp = σ.lp := by
  unfold dr
  split
  · rename_i x _
    cases x <;> exact ⟨rfl, rfl⟩
  · exact ⟨rfl, rfl⟩
theorem step_s (o : IOper) (v : AV) : (step σ o v).s = σ.s := by
 unfold step
 have : ∀ (τ : St) (d : Option Nat) (x : AV), (τ.put d x).s = τ.s := fun τ d x => by cases d <;> rfl
 rw [this, (lpReg_same (dr o σ) v o.dst).2.1, (dr_s o).1]
theorem notLoc_view (av : AV) : notLoc (view av) = notLoc av := by cases av <;> rfl
theorem rdLoc_view (av : AV) (n off : Nat) : rdLoc n off (view av) = rdLoc n off av := by cases av <;> rfl
theorem rdLoc_no {av : AV} (h : notLoc av = true) (n off : Nat) : rdLoc n off av = none := by cases av <;> first | rfl | (simp [notLoc] at h)
theorem rd_step {o : IOper} {v : AV} (hf : slotFree σ o.dst = true) (hv : notLoc v = true) : ∀ p n, rd (step σ o v) p n = rd σ p n := by
  intro p n
  cases p <;> try rfl
  · rename_i b off
    show rdSO n off ((step σ o v).s b) = rdSO n off (σ.s b)
    rw [step_s]
  · rename_i d off
    show rdLoc n off (look (step σ o v).e d) = rdLoc n off (look σ.e d)
    rw [look_step]
    by_cases hd : o.dst = some d
    · rw [if_pos hd, rdLoc_no hv]
      rw [hd] at hf
      exact (rdLoc_no hf n off).symm
    · rw [if_neg hd]
      split
      · exact rdLoc_view ..
      · rfl
theorem agr_step {o y : IOper} {v : AV} (hf : slotFree σ y.dst = true) (hv : notLoc v = true) (hn : notIn y.dst (slots o) = true) (hdr : noDr y o = true) : Agr o σ (step σ y v) := by
  have key : ∀ i, i ∈ slots o → look (step σ y v).e i = look σ.e i := by
    intro i hi
    have h1 : ¬ drained y i = true := by
      have := List.all_eq_true.1 hdr i hi
      simpa using this
    rw [look_step, if_neg, if_neg h1]
    intro hd
    rw [hd] at hn
    simp [notIn] at hn
    exact hn hi
  refine ⟨fun x hx => ?_, fun t want hg => ?_, (step_s y v).symm, fun x _ g n => (rd_step hf hv _ n).symm⟩
  · cases x with
    | c a => rfl
    | t i => exact (key i (List.mem_append_right _ (mem_ixSlots hx))).symm
  · exact (key t (List.mem_append_left _ (by rw [hg]; exact List.mem_cons_self))).symm
structure Eqv (σ σ' : St) : Prop where
 e : ∀ i, look σ.e i = look σ'.e i
 lp : ∀ x, x ∈ σ.lp ↔ x ∈ σ'.lp
 s : σ.s = σ'.s
theorem Eqv.refl (σ : St) : Eqv σ σ := ⟨fun _ => rfl, fun _ => Iff.rfl, rfl⟩
theorem Eqv.symm (h : Eqv σ σ') : Eqv σ' σ := ⟨fun i => (h.e i).symm, fun x => (h.lp x).symm, h.s.symm⟩
theorem Eqv.trans {σ₃ : St} (h : Eqv σ σ') (k : Eqv σ' σ₃) : Eqv σ σ₃ := ⟨fun i => (h.e i).trans (k.e i), fun x => (h.lp x).trans (k.lp x), h.s.trans k.s⟩
theorem Eqv.rd (h : Eqv σ σ') : ∀ p n, AB.rd σ p n = AB.rd σ' p n := by
  intro p n
  cases p <;> try rfl
  · rename_i b off
    show rdSO n off (σ.s b) = rdSO n off (σ'.s b)
    rw [h.s]
  · rename_i d off
    show rdLoc n off (look σ.e d) = rdLoc n off (look σ'.e d)
    rw [h.e]
theorem Eqv.agr (h : Eqv σ σ') (o : IOper) : Agr o σ σ' := ⟨fun x _ => by cases x with
 | c a => rfl
 | t i => exact h.e i, fun t _ _ => h.e t, h.s, fun x _ g n => h.rd _ n⟩
theorem Eqv.free (h : Eqv σ σ') (d : Option Nat) : slotFree σ d = slotFree σ' d := by
 cases d with
 | none => rfl
 | some d => show notLoc (look σ.e d) = notLoc (look σ'.e d); rw [h.e]
theorem lpReg_lp : ∀ (v : AV) (d : Option Nat) (x : Nat × Nat), x ∈ (lpReg σ v d).lp ↔ (x ∈ σ.lp ∨ ∃ i, d = some i ∧ x.1 = i ∧ holdsLp v x.2)
  | .lp t off, some i, (x1, x2) => by
    show (x1, x2) ∈ (i, t) :: σ.lp ↔ _
    rw [List.mem_cons]
    constructor
    · rintro (h | h)
      · injection h with h1 h2; exact .inr ⟨i, rfl, h1, h2.symm⟩
      · exact .inl h
    · rintro (h | ⟨j, h1, h2, h3⟩)
      · exact .inr h
      · injection h1 with h1
        have h3' : t = x2 := h3
        have h2' : x1 = j := h2
        subst h1; subst h2'; subst h3'
        exact .inl rfl
  | .lp t off, none, x => ⟨fun h => .inl h, fun h => h.elim id fun ⟨_, h1, _⟩ => by cases h1⟩
  | .when _ v, d, x => lpReg_lp v d x
  | .undef, _, _ | .bool _, _, _ | .int _ _, _, _ | .str _, _, _ | .nilp, _, _ | .ref _ _, _, _ | .sp _, _, _ | .loc _, _, _ | .sl _ _ _ _, _, _ | .arr _ _ _ _, _, _ | .agg _, _, _ | .tup _, _, _ | .fn _ _ _, _, _ | .nilf, _, _ | .mp _, _, _ | .nilm, _, _ | .us _ _ _, _, _ | .one, _, _ | .btag _, _, _ | .nili, _, _ | .bb _ _ _, _, _ =>
    ⟨fun h => .inl h, fun h => h.elim id fun ⟨_, _, _, h3⟩ => h3.elim⟩
theorem step_lp (o : IOper) (v : AV) (x : Nat × Nat) : x ∈ (step σ o v).lp ↔ (x ∈ σ.lp ∨ ∃ i, o.dst = some i ∧ x.1 = i ∧ holdsLp v x.2) := by
 have h1 : (step σ o v).lp = (lpReg (dr o σ) v o.dst).lp := by unfold step; cases o.dst <;> rfl
 rw [h1, ← (dr_s (σ := σ) o).2]
 exact lpReg_lp v o.dst x
theorem Inv.eqv (h : Inv G n D σ a w) (k : Eqv σ σ') : Inv G n D σ' a w :=
 ⟨h.good, by rw [← k.s]; exact h.store, h.size, fun i v hv => by
  rw [← k.e i]
  exact ValS.frame (fun _ _ hv => hv) (fun b _ => ⟨rfl, rfl, rfl⟩) (fun _ _ _ _ hc => ⟨hc, rfl, rfl⟩) _ _ (fun t _ cs hcs => ⟨cs, by rw [k.e]; exact hcs, rfl⟩) (h.slots i v hv),
  fun i hi => by rw [← k.e i]; exact h.dom i hi, fun i t ht => (k.lp _).1 (h.lps i t (by rw [k.e]; exact ht)), h.def0⟩
theorem Eqv.step (h : Eqv σ σ') (o : IOper) (v : AV) : Eqv (AB.step σ o v) (AB.step σ' o v) :=
 ⟨fun i => by rw [look_step, look_step, h.e], fun x => by rw [step_lp, step_lp, h.lp], by rw [step_s, step_s, h.s]⟩
theorem step_comm {x y : IOper} {u v : AV} (hne : ∀ i j, x.dst = some i → y.dst = some j → i ≠ j) (hxy : ∀ i, y.dst = some i → drained x i = false) (hyx : ∀ i, x.dst = some i → drained y i = false) : Eqv (step (step σ x u) y v) (step (step σ y v) x u) :=
  ⟨fun i => by
    rw [look_step, look_step, look_step, look_step]
    by_cases h1 : y.dst = some i
    · by_cases h2 : x.dst = some i
      · exact absurd rfl (hne i i h2 h1)
      · simp [h1, h2, hxy i h1]
    · by_cases h2 : x.dst = some i
      · simp [h1, h2, hyx i h2]
      · simp only [h1, h2, if_false]
        by_cases h3 : drained x i = true <;> by_cases h4 : drained y i = true <;> simp [h3, h4], fun z => by
    rw [step_lp, step_lp, step_lp, step_lp]
    constructor
    · rintro ((h | h) | h)
      · exact .inl (.inl h)
      · exact .inr h
      · exact .inl (.inr h)
    · rintro ((h | h) | h)
      · exact .inl (.inl h)
      · exact .inr h
      · exact .inl (.inr h), by rw [step_s, step_s, step_s, step_s]⟩
end
end Go.AB
end

section
namespace Go.AB
open Go
section
variable {P : Program} {G G' : Gh} {n : Nat} {D : List Deferred} {σ σ' : St} {a : Act} {w w' : World}
theorem Inv.whenFalse {d : Option Nat} {av : AV} (h : Inv G n D (σ.put d (.tup [])) a w) (hd : dstOK n d = true) (hnl : ∀ t, ¬ holdsLp av t) : Inv G n D (σ.put d (.when false av)) a w := by
 cases d with
 | none => exact h
 | some i =>
  have hi : i < n := by simpa [dstOK] using hd
  have e1 : look (σ.put (some i) (.tup [])).e i = .tup [] := by simp [St.put, look_cons]
  have := h.reabs i hi (.when false av) hnl (fun cs e => by cases e) (fun v hv => by
   have hs := h.slots i v hv
   rw [e1] at hs
   obtain ⟨ys, rfl, h2⟩ := hs
   refine ⟨fun hh => Bool.noConfusion hh, fun _ => ?_⟩
   have : ys = #[] := Array.eq_empty_of_size_eq_zero (by simpa using h2.1)
   rw [this])
  refine this.eqv ⟨fun j => ?_, fun _ => Iff.rfl, rfl⟩
  simp only [St.put, look_cons]
  split <;> rfl
theorem retV_noLp {rs : List AV} (h : rsOK rs = true) (t : Nat) : ¬ holdsLp (retV rs) t := by
 match rs, h with
 | [], _ => exact fun h => h
 | [r], h => exact rsOK_holds h t
 | _ :: _ :: _, _ => exact fun h => h
theorem qe_iwp {op : IOp} {d : Option Nat} {v : AV} {K : St → Prop} (h : qe (xg true σ) σ.s op = .tot v ∨ ∃ c, qe (xg true σ) σ.s op = .prt c v ∧ c) (hk : K (σ.put d v)) : iwp P op d σ K := by
  cases op <;> first | (rcases h with h | ⟨c, h, _⟩ <;> cases h; done) | skip
  case cvtBytes x =>
    show cvtBytesW σ d K (xg true σ x)
    have h' : bytesPR (xg true σ x) = .tot v ∨ ∃ c, bytesPR (xg true σ x) = .prt c v ∧ c := h
    cases hx : xg true σ x <;> rw [hx] at h' <;> first | (rcases h' with h' | ⟨c, h', _⟩ <;> cases h'; done) | skip
    rcases h' with h' | ⟨c, h', _⟩
    · injection h' with h'; subst h'; exact hk
    · cases h'
  case lookup kk z ok x k =>
    show prK σ d K (lookupV kk z ok σ.s (xg true σ k) (xg true σ x))
    have h' : lookupV kk z ok σ.s (xg true σ k) (xg true σ x) = .tot v ∨ ∃ c, lookupV kk z ok σ.s (xg true σ k) (xg true σ x) = .prt c v ∧ c := h
    rcases h' with h' | ⟨c, h', hc⟩ <;> rw [h']
    · exact hk
    · exact ⟨hc, hk⟩
  case movT x =>
    show prK σ d K (tupV (xg true σ x))
    have h' : tupV (xg true σ x) = .tot v ∨ ∃ c, tupV (xg true σ x) = .prt c v ∧ c := h
    rcases h' with h' | ⟨c, h', hc⟩ <;> rw [h']
    · exact hk
    · exact ⟨hc, hk⟩
  case cvtRow x =>
    show prK σ d K (rowV (xg true σ x))
    have h' : rowV (xg true σ x) = .tot v ∨ ∃ c, rowV (xg true σ x) = .prt c v ∧ c := h
    rcases h' with h' | ⟨c, h', hc⟩ <;> rw [h']
    · exact hk
    · exact ⟨hc, hk⟩
  case buildSl sz m z ps =>
    show buildSlW sz m σ d K (fill (xg true σ) z ps)
    have h' : rowPR sz m (fill (xg true σ) z ps) = .tot v ∨ ∃ c, rowPR sz m (fill (xg true σ) z ps) = .prt c v ∧ c := h
    cases hx : fill (xg true σ) z ps <;> rw [hx] at h'
    · rcases h' with h' | ⟨c, h', _⟩ <;> cases h'
    · rcases h' with h' | ⟨c, h', hc⟩
      · cases h'
      · injection h' with h1 h2; subst h1; subst h2; exact ⟨hc, hk⟩
theorem Y.run (h : Inv G n D σ a w) {ops : Array Oper} {o : Oper} {o' : IOper} {v : AV} (hc : chkOper P n ops o o' = true) (hy : Y P σ o' v) {next : Act → World → Prop} {Q : Exit → Act → World → Prop}
    (hn : ∀ G' a' w', Inv G' n D (step σ o' v) a' w' → Pres G w G' w' → next a' w') : oneP P ops o a w next Q := by
  have gen : gwp P o' σ (fun τ => τ = step σ o' v) → oneP P ops o a w next Q := fun hg => gwp_sound h hc hg fun G' σ' a' w' h1 h2 h3 => by subst h3; exact hn G' a' w' h1 h2
  cases hy with
  | mov d x hi =>
    refine gen ?_
    show movW σ x d (fun τ => τ = step σ ⟨d, .mov true x, none⟩ (σ.x x)) (σ.x x)
    refine ⟨hi, ?_⟩
    show _ = (lpReg (σ.drain x) (σ.x x) d).put d (σ.x x)
    rw [isV_noLp hi]
  | pure _ _ hq =>
    have hdr : dr o' σ = σ := dr_qv (by rcases hq with hq | ⟨c, hq, _⟩ <;> rw [hq] <;> simp)
    have hst : step σ o' v = (lpReg σ v o'.dst).put o'.dst v := by unfold step; rw [hdr]
    rw [hst] at hn gen
    obtain ⟨d, op, g⟩ := o'
    cases g with
    | none =>
      refine gen ?_
      show nxt P op σ d (fun τ => τ = (lpReg σ v d).put d v) (pv op (xg true σ) σ)
      have hq' : (pv op (xg true σ) σ = .tot v ∨ ∃ c, pv op (xg true σ) σ = .prt c v ∧ c) := hq
      rcases hq' with hq | ⟨c, hq, hcc⟩
      · rw [hq]; rfl
      · rw [hq]; exact ⟨hcc, rfl⟩
    | some tw =>
      obtain ⟨t, want⟩ := tw
      have hq' : (qvG op want σ (look σ.e t) = .tot v ∨ ∃ c, qvG op want σ (look σ.e t) = .prt c v ∧ c) := hq
      rcases qvG_gv (o := op) (want := want) (σ := σ) (a := look σ.e t) with ⟨g0, b, hg0, hl⟩ | hl <;> rw [hl] at hq'
      case inr => rcases hq' with hq | ⟨c, hq, _⟩ <;> cases hq
      have hgs := fun K => gsel_gv (P := P) (o := op) (d := d) (t := t) (want := want) (σ := σ) (K := K) hg0
      generalize (g0 && (b == want)) = gg at hq' hgs
      have hq2 : (wPQ (rdO op) gg (pv op (xg gg σ) σ) = .tot v ∨ ∃ c, wPQ (rdO op) gg (pv op (xg gg σ) σ) = .prt c v ∧ c) := hq'
      cases hp : pv op (xg gg σ) σ with
      | tot x =>
        refine gen ?_
        show gsel P op d t want σ _ (look σ.e t)
        rw [hgs]
        show nxg P gg op σ d (fun τ => τ = (lpReg σ v d).put d v) (pv op (xg gg σ) σ)
        rw [hp]
        rw [hp] at hq2
        rcases hq2 with hq | ⟨c, hq, _⟩
        · injection hq with hq; subst hq; rfl
        · cases hq
      | prt c x =>
        refine gen ?_
        show gsel P op d t want σ _ (look σ.e t)
        rw [hgs]
        show nxg P gg op σ d (fun τ => τ = (lpReg σ v d).put d v) (pv op (xg gg σ) σ)
        rw [hp]
        rw [hp] at hq2
        rcases hq2 with hq | ⟨c', hq, hcc⟩
        · cases hq
        · injection hq with hq1 hq2; subst hq1; subst hq2; exact ⟨hcc, rfl⟩
      | no =>
        rw [hp] at hq2
        cases hr : rdO op with
        | false =>
          rw [hr] at hq2
          have hq3 : (PR.no = .tot v ∨ ∃ c, PR.no = .prt c v ∧ c) := hq2
          rcases hq3 with hq | ⟨c', hq, _⟩ <;> cases hq
        | true =>
          rw [hr] at hq2
          have hq3 : (PR.prt (gg = false) (.when gg .undef) = .tot v ∨ ∃ c, PR.prt (gg = false) (.when gg .undef) = .prt c v ∧ c) := hq2
          rcases hq3 with hq | ⟨c', hq, hcc⟩
          · cases hq
          injection hq with hq1 hq2
          subst hq1; subst hq2
          have hd : dstOK n d = true := by
            simp only [chkOper, Bool.and_eq_true] at hc
            exact hc.1.1.2
          refine gwp_sound (K := fun τ => τ = σ.put d (.tup [])) h hc ?_ fun G' σ' a' w' k1 k2 k3 => ?_
          · show gsel P op d t want σ (fun τ => τ = σ.put d (.tup [])) (look σ.e t)
            rw [hgs]
            show nxg P gg op σ d (fun τ => τ = σ.put d (.tup [])) (pv op (xg gg σ) σ)
            rw [hp]
            exact ⟨fun hb => absurd (hb.symm.trans hcc) (by decide), fun _ => rfl⟩
          · subst k3
            have e : (lpReg σ (.when gg .undef) d).put d (.when gg .undef) = σ.put d (.when false .undef) := by
              rw [hcc]
              have : lpReg σ (.when false .undef) d = σ := by cases d <;> rfl
              show (lpReg σ (.when false .undef) d).put d _ = _
              rw [this]
            have hn' := hn
            simp only at hn'
            rw [e] at hn'
            exact hn' G' a' w' (k1.whenFalse hd (fun _ h => h)) k2
  | call d f args as rs h1 h2 h3 =>
    refine gen ?_
    show callW P f σ d _ (argsV (xg true σ) args)
    rw [h1]
    refine FE.app h3 ⟨h2, ?_⟩
    show _ = (lpReg σ (retV rs) d).put d (retV rs)
    rw [retV_lp h2]
  | callG d f args t want g0 b rs h0 h2 h1 =>
    have hd : dstOK n d = true := by
      simp only [chkOper, Bool.and_eq_true] at hc
      exact hc.1.1.2
    have hst : step σ ⟨d, .call f args, some (t, want)⟩ (.when (g0 && (b == want)) (retV rs)) = σ.put d (.when (g0 && (b == want)) (retV rs)) := by
      show (lpReg σ (.when (g0 && (b == want)) (retV rs)) d).put d (.when (g0 && (b == want)) (retV rs)) = _
      have : lpReg σ (.when (g0 && (b == want)) (retV rs)) d = σ := retV_lp h2 σ d
      rw [this]
    rw [hst] at hn
    refine gwp_sound (K := fun τ => ((g0 && (b == want)) = true ∧ τ = σ.put d (retV rs)) ∨ ((g0 && (b == want)) = false ∧ τ = σ.put d (.tup []))) h hc ?_ fun G' σ' a' w' k1 k2 k3 => ?_
    · show gsel P (.call f args) d t want σ _ (look σ.e t)
      rw [gsel_gv h0]
      refine ⟨fun hb => ?_, fun hb => .inr ⟨hb, rfl⟩⟩
      obtain ⟨as, q1, q2⟩ := h1 hb
      show callW P f σ d _ (argsV (xg true σ) args)
      rw [q1]
      exact FE.app q2 ⟨h2, .inl ⟨hb, rfl⟩⟩
    · rcases k3 with ⟨hb, rfl⟩ | ⟨hb, rfl⟩
      · rw [hb] at hn; exact hn G' a' w' (k1.whenTrue hd) k2
      · rw [hb] at hn; exact hn G' a' w' (k1.whenFalse hd (retV_noLp h2)) k2
  | callv d x args f as rs h1 hf h2 h3 =>
    obtain ⟨first, caps, xs, q1, q2, rfl⟩ := h1
    refine gen ?_
    show callvW P σ (argsV (xg true σ) args) d _ (xg true σ x)
    rw [q1, q2]
    refine ⟨hf, FE.app h3 ⟨h2, ?_⟩⟩
    show _ = (lpReg σ (retV rs) d).put d (retV rs)
    rw [retV_lp h2]
  | callvG d x args t want g0 b rs h0 h2 h1 =>
    have hd : dstOK n d = true := by
      simp only [chkOper, Bool.and_eq_true] at hc
      exact hc.1.1.2
    have hst : step σ ⟨d, .callv x args, some (t, want)⟩ (.when (g0 && (b == want)) (retV rs)) = σ.put d (.when (g0 && (b == want)) (retV rs)) := by
      show (lpReg σ (.when (g0 && (b == want)) (retV rs)) d).put d (.when (g0 && (b == want)) (retV rs)) = _
      have : lpReg σ (.when (g0 && (b == want)) (retV rs)) d = σ := retV_lp h2 σ d
      rw [this]
    rw [hst] at hn
    refine gwp_sound (K := fun τ => ((g0 && (b == want)) = true ∧ τ = σ.put d (retV rs)) ∨ ((g0 && (b == want)) = false ∧ τ = σ.put d (.tup []))) h hc ?_ fun G' σ' a' w' k1 k2 k3 => ?_
    · show gsel P (.callv x args) d t want σ _ (look σ.e t)
      rw [gsel_gv h0]
      refine ⟨fun hb => ?_, fun hb => .inr ⟨hb, rfl⟩⟩
      obtain ⟨f, as, ⟨first, caps, xs, q1, q2, rfl⟩, q4, q5⟩ := h1 hb
      show callvW P σ (argsV (xg true σ) args) d _ (xg true σ x)
      rw [q1, q2]
      exact ⟨q4, FE.app q5 ⟨h2, .inl ⟨hb, rfl⟩⟩⟩
    · rcases k3 with ⟨hb, rfl⟩ | ⟨hb, rfl⟩
      · rw [hb] at hn; exact hn G' a' w' (k1.whenTrue hd) k2
      · rw [hb] at hn; exact hn G' a' w' (k1.whenFalse hd (retV_noLp h2)) k2
  | eff _ _ hq =>
    obtain ⟨_, hnl, hlp, hdr⟩ := qeO_v hq
    have hst : step σ o' v = σ.put o'.dst v := by unfold step; rw [hdr, hlp]
    obtain ⟨d, op, g⟩ := o'
    cases g with
    | none =>
      refine gen ?_
      have hq' : qe (xg true σ) σ.s op = .tot v ∨ ∃ c, qe (xg true σ) σ.s op = .prt c v ∧ c := hq
      show nxt P op σ d (fun τ => τ = step σ ⟨d, op, none⟩ v) (pv op (xg true σ) σ)
      rw [(qe_plain (hq'.imp id fun ⟨c, h, _⟩ => ⟨c, h⟩)).2.1]
      exact qe_iwp hq' hst.symm
    | some tw =>
      obtain ⟨t, want⟩ := tw
      have hd : dstOK n d = true := by
        simp only [chkOper, Bool.and_eq_true] at hc
        exact hc.1.1.2
      have hq' : qeG op want σ (look σ.e t) = .tot v ∨ ∃ c, qeG op want σ (look σ.e t) = .prt c v ∧ c := hq
      rcases qeG_gv (o := op) (want := want) (σ := σ) (a := look σ.e t) with ⟨g0, b, hg0, hl⟩ | hl <;> rw [hl] at hq'
      case inr => rcases hq' with h' | ⟨c, h', _⟩ <;> cases h'
      have hgs := fun K => gsel_gv (P := P) (o := op) (d := d) (t := t) (want := want) (σ := σ) (K := K) hg0
      generalize (g0 && (b == want)) = gg at hq' hgs
      obtain ⟨u, hu, hv⟩ : ∃ u, (gg = true → (qe (xg true σ) σ.s op = .tot u ∨ ∃ c, qe (xg true σ) σ.s op = .prt c u ∧ c)) ∧ v = .when gg u := by
        have h2 : wPR gg (qe (xg gg σ) σ.s op) = .tot v ∨ ∃ c, wPR gg (qe (xg gg σ) σ.s op) = .prt c v ∧ c := hq'
        cases hq2 : qe (xg gg σ) σ.s op with
        | tot u =>
          rw [hq2] at h2
          refine ⟨u, fun hb => ?_, ?_⟩
          · rw [hb] at hq2; exact .inl hq2
          · rcases h2 with h2 | ⟨c, h2, _⟩
            · injection h2 with h2; exact h2.symm
            · cases h2
        | prt c u =>
          rw [hq2] at h2
          rcases h2 with h2 | ⟨c', h2, hc'⟩
          · cases h2
          · injection h2 with h3 h4
            refine ⟨u, fun hb => ?_, h4.symm⟩
            rw [hb] at hq2
            subst h3
            exact .inr ⟨c, hq2, hc' hb⟩
        | no => rw [hq2] at h2; rcases h2 with h2 | ⟨c, h2, _⟩ <;> cases h2
      subst hv
      have hpn : ∀ f τ, pv op f τ = .no := by
        intro f τ
        have h2 : wPR gg (qe (xg gg σ) σ.s op) = .tot _ ∨ ∃ c, wPR gg (qe (xg gg σ) σ.s op) = .prt c _ ∧ c := hq'
        cases op <;> first | rfl | (rcases h2 with h2 | ⟨c, h2, _⟩ <;> cases h2)
      rw [hst] at hn
      refine gwp_sound (K := fun τ => (gg = true ∧ τ = σ.put d u) ∨ (gg = false ∧ τ = σ.put d (.tup []))) h hc ?_ fun G' σ' a' w' k1 k2 k3 => ?_
      · show gsel P op d t want σ _ (look σ.e t)
        rw [hgs, hpn]
        unfold nxg
        refine ⟨fun hb => ?_, fun hb => .inr ⟨hb, rfl⟩⟩
        show nxt P op σ d _ (pv op (xg true σ) σ)
        rw [hpn]
        exact qe_iwp (hu hb) (.inl ⟨hb, rfl⟩)
      · rcases k3 with ⟨hb, rfl⟩ | ⟨hb, rfl⟩
        · rw [hb] at hn; exact hn G' a' w' (k1.whenTrue hd) k2
        · rw [hb] at hn; exact hn G' a' w' (k1.whenFalse hd fun t ht => hnl t ht) k2
theorem qwp_seq {ops : Array Oper} {Q : Exit → Act → World → Prop} {K : St → Prop} (G₀ : Gh) (w₀ : World)
  (hn : ∀ G' σ' a' w', Inv G' n D σ' a' w' → Pres G₀ w₀ G' w' → K σ' → Q .normal a' w') : ∀ (q : Nat) (l : List Oper) (l' : List IOper) (G : Gh) (σ : St) (a : Act) (w : World), chkOpers P n ops l l' = true → Inv G n D σ a w → Pres G₀ w₀ G w → qwp P q l' σ K → wpList P ops Q l a w
 | 0, l, l', G, σ, a, w, hc, h, hp, hk => swp_sound G₀ w₀ hn l l' G σ a w hc h hp hk
 | _ + 1, [], [], G, σ, a, w, _, h, hp, hk => hn G σ a w h hp hk
 | q + 1, o :: l, o' :: l', G, σ, a, w, hc, h, hp, hk => by
  simp only [chkOpers, Bool.and_eq_true] at hc
  obtain ⟨hf, hk⟩ := hk
  obtain ⟨v, hv, hy, hk⟩ := q1_inv hk
  show oneP P ops o a w (wpList P ops Q l) Q
  exact hy.run h hc.1 fun G' a' w' h1 h2 => qwp_seq G₀ w₀ hn q l l' G' _ a' w' hc.2 h1 (hp.trans h2) hk
 | _ + 1, [], _ :: _, _, _, _, _, hc, _, _, _ => by simp [chkOpers] at hc
 | _ + 1, _ :: _, [], _, _, _, _, hc, _, _, _ => by simp [chkOpers] at hc
abbrev Pend := List (Nat × IOper × AV)
def Chain (P : Program) : St → Pend → Prop
 | _, [] => True
 | σ, (_, o, v) :: r => slotFree σ o.dst = true ∧ notLoc v = true ∧ Y P σ o v ∧ Chain P (step σ o v) r
def fin : St → Pend → St
 | σ, [] => σ
 | σ, (_, o, v) :: r => fin (step σ o v) r
theorem Chain.eqv : ∀ {p : Pend} {σ σ' : St}, Eqv σ σ' → Chain P σ p → Chain P σ' p
 | [], _, _, _, _ => trivial
 | (_, o, v) :: r, _, _, h, ⟨h1, h2, h3, h4⟩ => ⟨by rw [← h.free]; exact h1, h2, h3.agr (h.agr o), Chain.eqv (h.step o v) h4⟩
theorem fin_eqv : ∀ (p : Pend) {σ σ' : St}, Eqv σ σ' → Eqv (fin σ p) (fin σ' p)
 | [], _, _, h => h
 | (_, o, v) :: r, _, _, h => fin_eqv r (h.step o v)
theorem drained_slots {o : IOper} {i : Nat} (h : drained o i = true) : i ∈ slots o := by
  unfold drained at h
  split at h
  · rename_i j hop
    have : j = i := by simpa using h
    subst this
    refine List.mem_append_right _ ?_
    rw [hop]
    exact List.mem_cons_self
  · cases h
theorem ap_spec {x y : IOper} (h : ap x y = true) : notIn x.dst (slots y) = true ∧ notIn y.dst (slots x) = true ∧ (∀ i j, x.dst = some i → y.dst = some j → i ≠ j) ∧ noDr x y = true ∧ noDr y x = true ∧ (∀ i, y.dst = some i → drained x i = false) ∧ (∀ i, x.dst = some i → drained y i = false) := by
  unfold ap at h
  simp only [Bool.and_eq_true] at h
  refine ⟨h.1.1.2, h.1.2, fun i j hi hj => ?_, h.1.1.1.1, h.1.1.1.2, fun i hi => ?_, fun i hi => ?_⟩
  · have := h.2
    rw [hi, hj] at this
    simpa using this
  · have := h.1.2
    rw [hi] at this
    simp [notIn] at this
    cases hd : drained x i with
    | false => rfl
    | true => exact absurd (drained_slots hd) this
  · have := h.1.1.2
    rw [hi] at this
    simp [notIn] at this
    cases hd : drained y i with
    | false => rfl
    | true => exact absurd (drained_slots hd) this
theorem pull {x : Nat × IOper × AV} : ∀ (pre : Pend) (post : Pend) (σ : St), (∀ y ∈ pre, ap y.2.1 x.2.1 = true) → Chain P σ (pre ++ x :: post) →
    slotFree σ x.2.1.dst = true ∧ notLoc x.2.2 = true ∧ Y P σ x.2.1 x.2.2 ∧ Chain P (step σ x.2.1 x.2.2) (pre ++ post) ∧ Eqv (fin (step σ x.2.1 x.2.2) (pre ++ post)) (fin σ (pre ++ x :: post))
  | [], post, σ, _, h => ⟨h.1, h.2.1, h.2.2.1, h.2.2.2, Eqv.refl _⟩
  | (k, o, v) :: pre, post, σ, hap, h => by
    obtain ⟨h1, h2, h3, h4⟩ := h
    obtain ⟨i1, i2, i3, i4, i5⟩ := pull pre post (step σ o v) (fun y hy => hap y (List.mem_cons_of_mem _ hy)) h4
    obtain ⟨a1, a2, a3, a4, a5, a6, a7⟩ := ap_spec (hap (k, o, v) List.mem_cons_self)
    have hfx : slotFree σ x.2.1.dst = true := by
      cases hd : x.2.1.dst with
      | none => rfl
      | some j =>
        rw [hd] at i1
        have i1' : notLoc (look (step σ o v).e j) = true := i1
        rw [look_step, if_neg (fun e => a3 j j e hd rfl)] at i1'
        show notLoc (look σ.e j) = true
        split at i1'
        · rw [notLoc_view] at i1'; exact i1'
        · exact i1'
    have hfo : slotFree (step σ x.2.1 x.2.2) o.dst = true := by
      cases hd : o.dst with
      | none => rfl
      | some j =>
        rw [hd] at h1
        show notLoc (look (step σ x.2.1 x.2.2).e j) = true
        rw [look_step, if_neg (fun e => a3 j j hd e rfl)]
        split
        · rw [notLoc_view]; exact h1
        · exact h1
    have hcomm : Eqv (step (step σ o v) x.2.1 x.2.2) (step (step σ x.2.1 x.2.2) o v) := step_comm a3 a6 a7
    refine ⟨hfx, i2, i3.agr (agr_step h1 h2 a1 a4).symm, ⟨hfo, h2, h3.agr (agr_step hfx i2 a2 a5), i4.eqv hcomm⟩, ?_⟩
    exact (fin_eqv (pre ++ post) hcomm.symm).trans i5
end
end Go.AB
end

section
namespace Go.AB
open Go
section
variable {P : Program} {G G' : Gh} {n : Nat} {D : List Deferred} {σ σ' : St} {a : Act} {w w' : World} {ops : Array Oper} {iops : List IOper} {q : Nat}
def mk : Nat → List IOper → List AV → Pend
 | k, o :: l, v :: vs => (k, o, v) :: mk (k + 1) l vs
 | _, _, _ => []
theorem qwp_pend {K : St → Prop} : ∀ (q : Nat) (l : List IOper) (σ : St) (k : Nat), q ≤ l.length → qwp P q l σ K → ∃ vs : List AV, vs.length = q ∧ Chain P σ (mk k l vs) ∧ swp P (l.drop q) (fin σ (mk k l vs)) K
 | 0, l, σ, k, _, h => ⟨[], rfl, by cases l <;> trivial, by cases l <;> exact h⟩
 | q + 1, [], _, _, hl, _ => by simp at hl
 | q + 1, o :: l, σ, k, hl, h => by
  obtain ⟨hf, h1⟩ := h
  obtain ⟨v, hv, hy, hk⟩ := q1_inv h1
  obtain ⟨vs, h2, h3, h4⟩ := qwp_pend q l (step σ o v) (k + 1) (by simpa using hl) hk
  exact ⟨v :: vs, by simp [h2], ⟨hf, hv, hy, h3⟩, h4⟩
theorem mk_mem : ∀ (l : List IOper) (vs : List AV) (k : Nat) (i : Nat) (o : IOper) (v : AV), (i, o, v) ∈ mk k l vs → ∃ j, i = k + j ∧ j < vs.length ∧ l[j]? = some o
  | [], _, _, _, _, _, h => by simp [mk] at h
  | _ :: _, [], _, _, _, _, h => by simp [mk] at h
  | o' :: l, v' :: vs, k, i, o, v, h => by
    rcases List.mem_cons.1 h with h | h
    · injection h with h1 h2; injection h2 with h2 h3; subst h1; subst h2
      exact ⟨0, rfl, by simp, rfl⟩
    · obtain ⟨j, h1, h2, h3⟩ := mk_mem l vs (k + 1) i o v h
      exact ⟨j + 1, by omega, by simpa using h2, by simpa using h3⟩
theorem mk_sorted : ∀ (l : List IOper) (vs : List AV) (k : Nat), (mk k l vs).Pairwise fun x y => x.1 < y.1
 | [], _, _ => by simp [mk]
 | _ :: _, [], _ => by simp [mk]
 | o :: l, v :: vs, k => by
  refine List.Pairwise.cons (fun y hy => ?_) (mk_sorted l vs (k + 1))
  obtain ⟨i, o', v'⟩ := y
  obtain ⟨j, h1, _⟩ := mk_mem l vs (k + 1) i o' v' hy
  show k < i
  omega
theorem mk_has : ∀ (l : List IOper) (vs : List AV) (k j : Nat), j < vs.length → j < l.length → ∃ o v, (k + j, o, v) ∈ mk k l vs
 | [], _, _, _, _, h => by simp at h
 | _ :: _, [], _, _, h, _ => by simp at h
 | o :: l, v :: vs, k, 0, _, _ => ⟨o, v, List.mem_cons_self⟩
 | o :: l, v :: vs, k, j + 1, h1, h2 => by
  obtain ⟨o', v', h⟩ := mk_has l vs (k + 1) j (by simpa using h1) (by simpa using h2)
  refine ⟨o', v', List.mem_cons_of_mem _ ?_⟩
  rw [show k + (j + 1) = k + 1 + j by omega]
  exact h
theorem chkOpers_get : ∀ (l : List Oper) (l' : List IOper), chkOpers P n ops l l' = true → l.length = l'.length ∧ ∀ (k : Nat) (o : Oper) (o' : IOper), l[k]? = some o → l'[k]? = some o' → chkOper P n ops o o' = true
 | [], [], _ => ⟨rfl, fun k o o' h => by simp at h⟩
 | o :: l, o' :: l', h => by
  simp only [chkOpers, Bool.and_eq_true] at h
  obtain ⟨h1, h2⟩ := chkOpers_get l l' h.2
  refine ⟨by simp [h1], fun k x x' hx hx' => ?_⟩
  cases k with
  | zero => simp at hx hx'; subst hx; subst hx'; exact h.1
  | succ k => exact h2 k x x' (by simpa using hx) (by simpa using hx')
 | [], _ :: _, h => by simp [chkOpers] at h
 | _ :: _, [], h => by simp [chkOpers] at h
theorem wpOp_one {Q : Exit → Act → World → Prop} {i : Nat} {o : Oper} {next : Act → World → Prop} (ho : ops[i]? = some o) (h : oneP P ops o a w next Q) : wpOp P ops Q i next a w := by
 unfold wpOp
 simp only [ho]
 exact h
theorem bindsOn_iff {j i : Nat} {o : Oper} (ho : ops[j]? = some o) : bindsOn ops j i = true ↔ ∃ e ∈ o.after, Region.binds .any e = true ∧ e.on = i := by
 unfold bindsOn
 rw [ho]
 show (o.after.any fun e => Region.binds .any e && e.on == i) = true ↔ _
 rw [Array.any_eq_true']
 simp only [Bool.and_eq_true, beq_iff_eq]
theorem tail_sound {K : St → Prop} {Q : Exit → Act → World → Prop} (G₀ : Gh) (w₀ : World) (hc : chkOpers P n ops ops.toList iops = true)
  (hn : ∀ G' σ' a' w', Inv G' n D σ' a' w' → Pres G₀ w₀ G' w' → K σ' → Q .normal a' w') : ∀ (l : List IOper) (k : Nat) (listed : Array Bool) (G : Gh) (σ : St) (a : Act) (w : World), l = iops.drop k → chkTail ops l.length k listed = true →
  swp P l σ K → Inv G n D σ a w → Pres G₀ w₀ G w → wpAny P .any ops Q l.length listed a w
 | [], _, listed, G, σ, a, w, _, ht, hk, h, hp => ⟨List.isEmpty_iff.1 ht, hn G σ a w h hp hk⟩
 | o' :: l, k, listed, G, σ, a, w, hl, ht, hk, h, hp => by
  have ht' : (Region.ready .any ops listed == [k] && chkTail ops l.length (k + 1) (listed.setIfInBounds k true)) = true := ht
  simp only [Bool.and_eq_true, beq_iff_eq] at ht'
  obtain ⟨hr, ht'⟩ := ht'
  obtain ⟨hlen, hget⟩ := chkOpers_get _ _ hc
  have hk' : iops[k]? = some o' := by
   have : (iops.drop k)[0]? = some o' := by rw [← hl]; rfl
   simpa using this
  have hdrop : l = iops.drop (k + 1) := by
   have : (iops.drop k).tail = l := by rw [← hl]; rfl
   rw [← this]; simp
  have hklt : k < ops.toList.length := by rw [hlen]; exact (List.getElem?_eq_some_iff.1 hk').1
  have ho : ops.toList[k]? = some ops.toList[k] := List.getElem?_eq_getElem hklt
  refine ⟨fun h0 => absurd h0 (by rw [hr]; simp), fun i hi => ?_⟩
  rw [hr] at hi
  have : i = k := by simpa using hi
  subst this
  refine wpOp_one (by simp) (gwp_sound h (hget i _ _ ho hk') hk fun G' σ' a' w' h1 h2 h3 => ?_)
  exact tail_sound G₀ w₀ hc hn l (i + 1) _ G' σ' a' w' hdrop ht' h3 h1 (hp.trans h2)
structure Good (ops : Array Oper) (iops : List IOper) (q : Nat) (pend : Pend) (listed : Array Bool) : Prop where
 size : listed.size = ops.size
 un : ∀ k o v, (k, o, v) ∈ pend → k < q ∧ listed.getD k true = false ∧ iops[k]? = some o
 li : ∀ k, k < q → (∀ o v, (k, o, v) ∉ pend) → listed.getD k false = true
 tl : ∀ j, q ≤ j → j < ops.size → listed.getD j true = false
 cl : ∀ m, m < q → listed.getD m false = true → ∀ i, bindsOn ops m i = true → listed.getD i false = true
 sorted : pend.Pairwise fun x y => x.1 < y.1
theorem getD_ft {l : Array Bool} {i : Nat} (h : l.getD i false = true) : l.getD i true = true := by
  rcases Nat.lt_or_ge i l.size with hi | hi
  · simp [hi] at h ⊢; exact h
  · simp [Array.getElem?_eq_none hi] at h
theorem upTo_eq {listed : Array Bool} (hg : Good ops iops q [] listed) : listed = upTo ops.size q := by
  apply Array.ext
  · simp [upTo, hg.size]
  · intro i h1 h2
    simp only [upTo, Array.getElem_map, Array.getElem_range]
    have hi : i < ops.size := by rw [← hg.size]; exact h1
    by_cases hq : i < q
    · have := hg.li i hq (fun o v => by simp)
      simp [h1] at this
      simp [hq, this]
    · have := hg.tl i (by omega) hi
      simp [h1] at this
      simp [hq, this]
theorem mem_ready' {j : Nat} {listed : Array Bool} (h : j ∈ Region.ready .any ops listed) : j < ops.size ∧ listed.getD j true = false ∧ ∀ i, bindsOn ops j i = true → listed.getD i false = true := by
 obtain ⟨h0, o, ho, hall⟩ := mem_ready.1 h
 refine ⟨(Array.getElem?_eq_some_iff.1 ho).1, h0, fun i hi => ?_⟩
 obtain ⟨e, he, hb, hon⟩ := (bindsOn_iff ho).1 hi
 rw [← hon]
 exact hall e he hb
theorem good_step {pre post : Pend} {x : Nat × IOper × AV} {listed : Array Bool} (hg : Good ops iops q (pre ++ x :: post) listed) (hr : x.1 ∈ Region.ready .any ops listed) : Good ops iops q (pre ++ post) (listed.setIfInBounds x.1 true) := by
  obtain ⟨xk, xo, xv⟩ := x
  obtain ⟨r1, r2, r3⟩ := mem_ready' hr
  have hxq : xk < q := (hg.un xk xo xv (by simp)).1
  have hxs : xk < listed.size := by rw [hg.size]; exact r1
  have hsub : ∀ y, y ∈ pre ++ post → y ∈ pre ++ (xk, xo, xv) :: post := fun y hy => by
    rcases List.mem_append.1 hy with h | h
    · exact List.mem_append_left _ h
    · exact List.mem_append_right _ (List.mem_cons_of_mem _ h)
  have hsort := List.pairwise_append.1 hg.sorted
  have hpre : ∀ y ∈ pre, y.1 < xk := fun y hy => hsort.2.2 y hy (xk, xo, xv) List.mem_cons_self
  have hpost : ∀ y ∈ post, xk < y.1 := fun y hy => (List.pairwise_cons.1 hsort.2.1).1 y hy
  have hne : ∀ y ∈ pre ++ post, y.1 ≠ xk := fun y hy => by
    rcases List.mem_append.1 hy with h | h
    · have := hpre y h; omega
    · have := hpost y h; omega
  refine ⟨by simp [hg.size], fun k o v hk => ?_, fun k hk hno => ?_, fun j h1 h2 => ?_, fun m hm hl i hi => ?_, ?_⟩
  · obtain ⟨u1, u2, u3⟩ := hg.un k o v (hsub _ hk)
    exact ⟨u1, by rw [getD_set_ne true (Ne.symm (hne _ hk))]; exact u2, u3⟩
  · by_cases hkx : xk = k
    · subst hkx; simp [hxs]
    · rw [getD_set_ne false hkx]
      refine hg.li k hk fun o v hm => ?_
      rcases List.mem_append.1 hm with h | h
      · exact hno o v (List.mem_append_left _ h)
      · rcases List.mem_cons.1 h with h | h
        · injection h with h; exact hkx h.symm
        · exact hno o v (List.mem_append_right _ h)
  · rw [getD_set_ne true (by omega)]; exact hg.tl j h1 h2
  · by_cases hmx : xk = m
    · subst hmx; exact getD_set_true (r3 i hi)
    · rw [getD_set_ne false hmx] at hl
      exact getD_set_true (hg.cl m hm hl i hi)
  · rw [List.pairwise_append]
    exact ⟨hsort.1, (List.pairwise_cons.1 hsort.2.1).2, fun y hy z hz => hsort.2.2 y hy z (List.mem_cons_of_mem _ hz)⟩
theorem run_pend {Q : Exit → Act → World → Prop} (G₀ : Gh) (w₀ : World) (f : Nat) (hc : chkOpers P n ops ops.toList iops = true) (hq : q ≤ ops.size) (h1 : chkS1 ops q = true) (h2 : chkS2 ops q = true) (h3 : chkS3 ops q iops = true) (h4 : q < ops.size → Region.ready .any ops (upTo ops.size q) = [q]) :
    ∀ (m : Nat) (pend : Pend), pend.length = m → ∀ (listed : Array Bool) (σ : St), Good ops iops q pend listed → Chain P σ pend →
      (∀ G a w, Inv G n D (fin σ pend) a w → Pres G₀ w₀ G w → wpAny P .any ops Q f (upTo ops.size q) a w) → ∀ (G : Gh) (a : Act) (w : World), Inv G n D σ a w → Pres G₀ w₀ G w → wpAny P .any ops Q (m + f) listed a w := by
  intro m
  induction m with
  | zero =>
    intro pend hp listed σ hg _ hT G a w h hpr
    have : pend = [] := List.eq_nil_of_length_eq_zero hp
    subst this
    rw [upTo_eq hg, Nat.zero_add]
    exact hT G a w h hpr
  | succ m ih =>
    intro pend hp listed σ hg hch hT G a w h hpr
    obtain ⟨hlen, hget⟩ := chkOpers_get _ _ hc
    rw [show m + 1 + f = (m + f) + 1 by omega]
    refine ⟨fun h0 => ?_, fun i hi => ?_⟩
    · -- the first that waits is ready
      cases pend with
      | nil => simp at hp
      | cons x pend =>
        obtain ⟨k, o, v⟩ := x
        obtain ⟨u1, u2, u3⟩ := hg.un k o v List.mem_cons_self
        have hmem : k ∈ Region.ready .any ops listed := by
          have hk : k < ops.size := by omega
          refine mem_ready.2 ⟨u2, ops[k], Array.getElem?_eq_getElem hk, fun e he hb => ?_⟩
          have hs := List.all_eq_true.1 h1 k (List.mem_range.2 u1)
          rw [Array.getElem?_eq_getElem hk] at hs
          have := Array.all_eq_true_iff_forall_mem.1 hs e he
          rw [hb] at this
          have hlt : e.on < k := by simpa using this
          refine hg.li e.on (by omega) fun o' v' hm => ?_
          rcases List.mem_cons.1 hm with hm | hm
          · injection hm with hm; omega
          · have := (List.pairwise_cons.1 hg.sorted).1 _ hm
            simp at this
            omega
        rw [h0] at hmem
        cases hmem
    · obtain ⟨r1, r2, r3⟩ := mem_ready' hi
      have hne : ∃ k o v, (k, o, v) ∈ pend := by
        cases pend with
        | nil => simp at hp
        | cons x pend => exact ⟨x.1, x.2.1, x.2.2, List.mem_cons_self⟩
      -- it is one of those that wait
      have hiq : i < q := by
        refine Classical.byContradiction fun hge => ?_
        have hqs : q < ops.size := by omega
        by_cases hiq' : i = q
        · subst hiq'
          have hall : ∀ (d k : Nat), k < i → i - k = d → listed.getD k false = true := by
            intro d
            induction d using Nat.strongRecOn with
            | _ d ihd =>
              intro k hk hd
              have hs : ((List.range i).all fun k => (List.range (i + 1)).any fun m => decide (k < m) && bindsOn ops m k) = true := by
                unfold chkS2 at h2
                rw [Bool.or_eq_true] at h2
                rcases h2 with h2 | h2
                · have := beq_iff_eq.1 h2; omega
                · exact h2
              obtain ⟨m', hm1, hm2⟩ := List.any_eq_true.1 (List.all_eq_true.1 hs k (List.mem_range.2 hk))
              rw [Bool.and_eq_true, decide_eq_true_eq] at hm2
              have hm1' := List.mem_range.1 hm1
              by_cases hmi : m' = i
              · subst hmi; exact r3 k hm2.2
              · exact hg.cl m' (by omega) (ihd (i - m') (by omega) m' (by omega) rfl) k hm2.2
          obtain ⟨k, o, v, hk⟩ := hne
          obtain ⟨u1, u2, u3⟩ := hg.un k o v hk
          have := getD_ft (hall _ k u1 rfl)
          rw [u2] at this
          cases this
        · have hnr : i ∉ Region.ready .any ops (upTo ops.size q) := by rw [h4 hqs]; simpa using hiq'
          apply hnr
          refine mem_ready.2 ⟨?_, ops[i], Array.getElem?_eq_getElem r1, fun e he hb => ?_⟩
          · simp [upTo, r1]; omega
          · have hl := r3 e.on ((bindsOn_iff (Array.getElem?_eq_getElem r1)).2 ⟨e, he, hb, rfl⟩)
            have hlt : e.on < q := by
              refine Classical.byContradiction fun hnl => ?_
              by_cases hs : e.on < ops.size
              · have := hg.tl e.on (by omega) hs
                have := getD_ft hl
                simp_all
              · have : listed.getD e.on false = false := by simp [Array.getElem?_eq_none (show listed.size ≤ e.on by rw [hg.size]; omega)]
                rw [this] at hl; cases hl
            simp [upTo, show e.on < ops.size by omega, hlt]
      have hin : ∃ o v, (i, o, v) ∈ pend := by
        apply Classical.byContradiction
        intro hno
        have := hg.li i hiq fun o v hm => hno ⟨o, v, hm⟩
        have := getD_ft this
        rw [r2] at this
        cases this
      obtain ⟨o', v, hin⟩ := hin
      obtain ⟨pre, post, rfl⟩ := List.append_of_mem hin
      have hsort := List.pairwise_append.1 hg.sorted
      have hap : ∀ y ∈ pre, ap y.2.1 o' = true := by
        intro y hy
        obtain ⟨k, o, u⟩ := y
        have hlt : k < i := hsort.2.2 _ hy _ List.mem_cons_self
        obtain ⟨u1, u2, u3⟩ := hg.un k o u (List.mem_append_left _ hy)
        obtain ⟨_, _, u4⟩ := hg.un i o' v (by simp)
        have hs := List.all_eq_true.1 (List.all_eq_true.1 h3 i (List.mem_range.2 hiq)) k (List.mem_range.2 hlt)
        rw [Bool.or_eq_true] at hs
        rcases hs with hs | hs
        · have := getD_ft (r3 k hs)
          rw [u2] at this
          cases this
        · unfold apAt at hs
          rw [u3, u4] at hs
          exact hs
      obtain ⟨p1, p2, p3, p4, p5⟩ := pull pre post σ hap hch
      obtain ⟨_, _, u4⟩ := hg.un i o' v (by simp)
      have ho : ops.toList[i]? = some ops[i] := by simp [r1]
      refine wpOp_one (o := ops[i]) (by simp [r1]) (Y.run h (hget i _ _ ho u4) p3 fun G' a' w' k1 k2 => ?_)
      exact ih (pre ++ post) (by simp at hp ⊢; omega) _ (step σ o' v) (good_step hg hi) p4 (fun G'' a'' w'' z1 z2 => hT G'' a'' w'' (z1.eqv p5) z2) G' a' w' k1 (hpr.trans k2)
theorem draw_q (hm : P.follows .mixedOrders = true) : DrawQ P n := by
  intro D draw id ops iops q G σ a w K Q hc hd h hw hn
  cases draw with
  | false => exact wp_region_list (qwp_seq G w hn q ops.toList iops G σ a w hc h (Pres.refl G w) hw)
  | true =>
  have hd := hd rfl
  simp only [chkDr, Bool.and_eq_true, decide_eq_true_eq] at hd
  obtain ⟨hq, h1, h2, h3, h4⟩ := hd
  obtain ⟨hlen, hget⟩ := chkOpers_get _ _ hc
  have hsz : iops.length = ops.size := by rw [← hlen]; simp
  obtain ⟨vs, e1, e2, e3⟩ := qwp_pend q iops σ 0 (by omega) hw
  have hmk : (mk 0 iops vs).length = q := by
    have : ∀ (l : List IOper) (vs : List AV) (k : Nat), vs.length ≤ l.length → (mk k l vs).length = vs.length := by
      intro l
      induction l with
      | nil => intro vs k hl; cases vs with
        | nil => rfl
        | cons => simp at hl
      | cons o l ih => intro vs k hl; cases vs with
        | nil => rfl
        | cons v vs => simp [mk, ih vs (k + 1) (by simpa using hl)]
    rw [this iops vs 0 (by omega), e1]
  refine wp_region_any hm ?_
  have hrq : q < ops.size → Region.ready .any ops (upTo ops.size q) = [q] := by
    intro hlt
    obtain ⟨d, hd⟩ : ∃ d, ops.size - q = d + 1 := ⟨ops.size - q - 1, by omega⟩
    rw [hd] at h4
    simp only [chkTail, Bool.and_eq_true, beq_iff_eq] at h4
    exact h4.1
  have hT : ∀ G' a' w', Inv G' n D (fin σ (mk 0 iops vs)) a' w' → Pres G w G' w' → wpAny P .any ops Q (ops.size - q) (upTo ops.size q) a' w' := by
    intro G' a' w' z1 z2
    have hl : (iops.drop q).length = ops.size - q := by rw [List.length_drop]; omega
    have := tail_sound G w hc hn (iops.drop q) q (upTo ops.size q) G' _ a' w' rfl (by rw [hl]; exact h4) e3 z1 z2
    rwa [hl] at this
  have hgood : Good ops iops q (mk 0 iops vs) (Array.replicate ops.size false) := by
    have hrep : ∀ k b, k < ops.size → (Array.replicate ops.size false).getD k b = false := fun k b hk => by simp [hk]
    refine ⟨by simp, fun k o v hk => ?_, fun k hk hno => ?_, fun j _ hj => hrep j _ hj, fun m hm hl i hi => ?_, mk_sorted iops vs 0⟩
    · obtain ⟨j, j1, j2, j3⟩ := mk_mem iops vs 0 k o v hk
      have : k = j := by omega
      subst this
      exact ⟨by omega, hrep k _ (by omega), j3⟩
    · obtain ⟨o, v, hh⟩ := mk_has iops vs 0 k (by omega) (by omega)
      rw [Nat.zero_add] at hh
      exact absurd hh (hno o v)
    · rw [hrep m _ (by omega)] at hl; cases hl
  have := run_pend (P := P) (n := n) (Q := Q) G w (ops.size - q) hc hq h1 h2 h3 hrq q (mk 0 iops vs) hmk _ σ hgood e2 hT G a { w with drawn := w.drawn + 1 } h.drew (Pres.drew G w)
  rwa [show q + (ops.size - q) = ops.size by omega] at this
end
end Go.AB
end

section
namespace Go.AB
open Go
def drainA (off : Nat) : AV → AV
 | .loc cs => .loc (match cs[off]? with | some (.sl _ sz n ds) => setAt cs off [.sl false sz n ds] | _ => cs)
 | a => a
def dr2 (o : IOper) (σ : St) : St := match o.op with
 | .mov true x => σ.drain x
 | .store _ _ x => σ.drain x
 | .append _ _ x _ => σ.drain x
 | .loadE off (.t i) _ => { σ with e := (i, drainA off (look σ.e i)) :: σ.e }
 | _ => σ
def dz (o : IOper) (i : Nat) (a : AV) : AV := if drained2 o i = true then (match o.op with | .loadE off _ _ => drainA off a | _ => view a) else a
theorem drainA_notLoc (off : Nat) (a : AV) : notLoc (drainA off a) = notLoc a := by cases a <;> rfl
theorem drainA_holds {off : Nat} {a : AV} {c : Nat} (h : holdsLp (drainA off a) c) : holdsLp a c := by cases a <;> first | exact h | exact h.elim
theorem view_drainA (off : Nat) (a : AV) : view (drainA off a) = drainA off (view a) := by cases a <;> rfl
theorem setAt_one (cs : List AV) (off : Nat) (x : AV) (h : off < cs.length) (j : Nat) : (setAt cs off [x])[j]? = if j = off then some x else cs[j]? := by
  unfold setAt
  rw [List.append_assoc]
  by_cases h1 : j < off
  · rw [List.getElem?_append_left (by simp; omega), if_neg (by omega), List.getElem?_take, if_pos h1]
  · rw [List.getElem?_append_right (by simp; omega)]
    have hl : (cs.take off).length = off := by simp; omega
    rw [hl]
    by_cases h2 : j = off
    · subst h2; simp
    · rw [if_neg h2, List.getElem?_append_right (by simp; omega), List.getElem?_drop]
      congr 1
      simp
      omega
theorem drainL_get (off : Nat) (cs : List AV) (j : Nat) : (match cs[off]? with | some (.sl _ sz n ds) => setAt cs off [.sl false sz n ds] | _ => cs)[j]? = if j = off then (cs[j]?).map (fun a => match a with | .sl _ sz n ds => .sl false sz n ds | a => a) else cs[j]? := by
  cases hc : cs[off]? with
  | none =>
    by_cases hj : j = off
    · subst hj; simp [hc]
    · simp [hj]
  | some a =>
    have hlt := (List.getElem?_eq_some_iff.1 hc).1
    cases a <;> first
      | (show (setAt cs off _)[j]? = _
         rw [setAt_one _ _ _ hlt]
         by_cases hj : j = off
         · subst hj; simp [hc]
         · simp [hj])
      | (show cs[j]? = _
         by_cases hj : j = off
         · subst hj; simp [hc]
         · simp [hj])
theorem drainA_comm (o1 o2 : Nat) (a : AV) : drainA o1 (drainA o2 a) = drainA o2 (drainA o1 a) := by
  cases a <;> first | rfl | skip
  rename_i cs
  show AV.loc _ = AV.loc _
  congr 1
  apply List.ext_getElem?
  intro j
  rw [drainL_get, drainL_get, drainL_get, drainL_get]
  by_cases h1 : j = o1
  · by_cases h2 : j = o2
    · simp only [eq_true h1, eq_true h2, if_true]
    · simp only [eq_true h1, eq_false h2, if_true, if_false]
  · by_cases h2 : j = o2
    · simp only [eq_false h1, eq_true h2, if_true, if_false]
    · simp only [eq_false h1, eq_false h2, if_false]
def step2 (σ : St) (o : IOper) (v : AV) : St := (lpReg (dr2 o σ) v (tgt o)).put (tgt o) v
def appV (sz bytes : Nat) (v : AV) : AV → AV → Prop
 | .sl true s n cs, .sl _ s' m ds => s = sz ∧ (s' = sz ∨ m = 0) ∧ (n + m) * bytes ≤ room ∧ v = .sl true sz (n + m) (cs ++ views ds)
 | .sl true s n cs, .str ds => s = sz ∧ sz = 1 ∧ (n + ds.length) * bytes ≤ room ∧ v = .sl true sz (n + ds.length) (cs ++ ds.map fun c => .int .u8 c.toNat)
 | _, _ => False
theorem appW_V {sz bytes : Nat} {σ : St} {x : IX} {d : Option Nat} {K : St → Prop} {a b : AV} (h : appendW sz bytes σ x d K a b) : ∃ v, appV sz bytes v a b ∧ K ((σ.drain x).put d v) := by
  unfold appendW at h
  split at h
  · obtain ⟨h1, h2, h3, h4⟩ := h; exact ⟨_, ⟨h1, h2, h3, rfl⟩, h4⟩
  · obtain ⟨h1, h2, h3, h4⟩ := h; exact ⟨_, ⟨h1, h2, h3, rfl⟩, h4⟩
  · exact h.elim
theorem appV_W {sz bytes : Nat} {σ : St} {x : IX} {d : Option Nat} {K : St → Prop} {a b v : AV} (h : appV sz bytes v a b) (hk : K ((σ.drain x).put d v)) : appendW sz bytes σ x d K a b := by
  unfold appV at h
  split at h
  · obtain ⟨h1, h2, h3, h4⟩ := h; subst h4; exact ⟨h1, h2, h3, hk⟩
  · obtain ⟨h1, h2, h3, h4⟩ := h; subst h4; exact ⟨h1, h2, h3, hk⟩
  · exact h.elim
theorem appV_sl {sz bytes : Nat} {a b v : AV} (h : appV sz bytes v a b) : ∃ n cs, v = .sl true sz n cs := by
  unfold appV at h
  split at h
  · exact ⟨_, _, h.2.2.2⟩
  · exact ⟨_, _, h.2.2.2⟩
  · exact h.elim
inductive Y2 (P : Program) (σ : St) : IOper → AV → Prop where
 | old (o : IOper) (v : AV) (h0 : locO o.op = false) (hf : slotFree σ o.dst = true) (hv : notLoc v = true) (h : Y P σ o v) : Y2 P σ o v
 | sto (n c : Nat) (x : IX) (old : List AV) (h0 : look σ.e c = .loc old) (h1 : old.length = n) (h2 : isV (σ.x x) = true) (h3 : (stCells (σ.x x)).length = n) : Y2 P σ ⟨none, .store n (.t c) x, none⟩ (.loc (stCells (σ.x x)))
 | alo (d : Nat) (z : List AV) (h0 : notLoc (look σ.e d) = true) (h1 : lpFree σ.lp (some d) = true) : Y2 P σ ⟨some d, .allocL z, none⟩ (.loc z)
 | app (d sz bytes : Nat) (x y : IX) (v : AV) (h0 : notLoc (look σ.e d) = true) (h1 : appV sz bytes v (σ.x x) (σ.x y)) : Y2 P σ ⟨some d, .append sz bytes x y, none⟩ v
 | lod (d off i : Nat) (x : IX) (cs : List AV) (o : Bool) (s m : Nat) (ds : List AV) (h0 : notLoc (look σ.e d) = true) (h1 : σ.x x = .lp i off) (h2 : look σ.e i = .loc cs) (h3 : cs[off]? = some (.sl o s m ds)) (h4 : d ≠ i) : Y2 P σ ⟨some d, .loadE off (.t i) x, none⟩ (.sl o s m ds)
def isLw (o : IOper) : Option Nat := match o with
 | ⟨none, .store _ (.t c) _, none⟩ => some c
 | ⟨some d, .allocL _, none⟩ => some d
 | _ => none
section
variable {P : Program} {G G' : Gh} {n : Nat} {D : List Deferred} {σ σ' : St} {a : Act} {w w' : World} {T : List Nat}
theorem tgt_old {o : IOper} (h : locO o.op = false) : tgt o = o.dst := by
 obtain ⟨d, op, g⟩ := o
 cases op <;> first | (cases h; done) | (cases d <;> cases g <;> rfl)
theorem dr2_old {o : IOper} (h : locO o.op = false) : dr2 o σ = dr o σ := by
 obtain ⟨d, op, g⟩ := o
 cases op <;> first | (cases h; done) | rfl | skip
 rename_i b x
 cases b <;> rfl
theorem step2_old {o : IOper} {v : AV} (h : locO o.op = false) : step2 σ o v = step σ o v := by
 unfold step2 step; rw [tgt_old h, dr2_old h]
theorem q2_inv {o : IOper} {K : St → Prop} (h : q2 P o σ K) : ∃ v, Y2 P σ o v ∧ K (step2 σ o v) := by
  unfold q2 at h
  split at h
  · rename_i m c x
    cases hl : look σ.e c <;> rw [hl] at h <;> first | (exact h.elim) | skip
    rename_i old
    obtain ⟨h1, h2, h3, h4⟩ := h
    exact ⟨_, .sto m c x old hl h1 h2 h3, h4⟩
  · rename_i d z
    exact ⟨_, .alo d z h.1 h.2.1, h.2.2⟩
  · rename_i d sz bytes x y
    obtain ⟨v, h1, h2⟩ := appW_V h.2
    refine ⟨v, .app d sz bytes x y v h.1 h1, ?_⟩
    obtain ⟨m, cs, rfl⟩ := appV_sl h1
    exact h2
  · rename_i d off i x
    obtain ⟨k0, k1, k2⟩ := h
    have k1' : ∃ i' o', σ.x x = .lp i' o' ∧ i' = i ∧ o' = off := by
      unfold isLpAt at k1
      split at k1
      · rename_i h1 h2
        injection h1 with h1
        rw [Bool.and_eq_true, beq_iff_eq, beq_iff_eq] at k1
        exact ⟨_, _, h2, by rw [k1.1, h1], k1.2⟩
      · cases k1
    obtain ⟨i', o', e1, rfl, rfl⟩ := k1'
    rw [e1] at k2
    have k2 : (match look σ.e i' with
      | .loc cs => some d ≠ some i' ∧ takeL o' cs fun cs' a => K ((σ.put (some i') (.loc cs')).put (some d) a)
      | _ => False) := k2
    cases hl : look σ.e i' <;> rw [hl] at k2 <;> first | (exact k2.elim) | skip
    rename_i cs
    obtain ⟨k3, k4⟩ := k2
    unfold takeL at k4
    split at k4
    · rename_i o s m ds hc
      refine ⟨.sl o s m ds, .lod d o' i' x cs o s m ds k0 e1 hl hc (fun e => k3 (by rw [e])), ?_⟩
      have e2 : step2 σ ⟨some d, .loadE o' (.t i') x, none⟩ (.sl o s m ds) = (σ.put (some i') (.loc (setAt cs o' [.sl false s m ds]))).put (some d) (.sl o s m ds) := by
        unfold step2 dr2
        simp only [hl, drainA, hc]
        rfl
      rw [e2]; exact k4
    · exact k4.elim
  · exact h.elim
  · exact h.elim
  · exact h.elim
  · exact h.elim
  · rename_i h1 h2 h3 h3' h4 h5 h6 h7
    have h0 : locO o.op = false := by
      obtain ⟨d, op, g⟩ := o
      cases op <;> first | rfl | exact (h4 _ _ _ _ _ rfl).elim | exact (h5 _ _ _ rfl).elim | exact (h6 _ _ _ _ _ _ rfl).elim | exact (h7 _ _ _ _ _ rfl).elim
    obtain ⟨v, q1, q2, q3⟩ := q1_inv h.2
    exact ⟨v, .old o v h0 h.1 q1 q2, by rw [step2_old h0]; exact q3⟩
theorem look_drainx (x : IX) (i : Nat) : look (σ.drain x).e i = if (match x with | .t j => j == i | .c _ => false) = true then view (look σ.e i) else look σ.e i := by
  cases x with
  | c a => rfl
  | t j =>
    show look ((j, view (look σ.e j)) :: σ.e) i = _
    rw [look_cons]
    by_cases hj : j = i
    · subst hj; simp
    · simp [hj]
theorem look_dr2 (o : IOper) (i : Nat) : look (dr2 o σ).e i = dz o i (look σ.e i) := by
  unfold dz
  obtain ⟨d, op, g⟩ := o
  cases op <;> first | rfl | skip
  case mov b x =>
    cases b with
    | false => rfl
    | true =>
      show look (σ.drain x).e i = _
      rw [look_drainx]
      cases x <;> rfl
  case store m p x =>
    show look (σ.drain x).e i = _
    rw [look_drainx]
    cases x <;> rfl
  case append sz bytes x y =>
    show look (σ.drain x).e i = _
    rw [look_drainx]
    cases x <;> rfl
  case loadE off j x =>
    cases j with
    | c a => rfl
    | t j =>
      show look ((j, drainA off (look σ.e j)) :: σ.e) i = if (j == i) = true then drainA off (look σ.e i) else look σ.e i
      rw [look_cons]
      by_cases hj : j = i
      · subst hj; simp
      · simp [hj]
theorem drain_s (x : IX) : (σ.drain x).s = σ.s ∧ (σ.drain x).lp = σ.lp := by cases x <;> exact ⟨rfl, rfl⟩
theorem dr2_s (o : IOper) : (dr2 o σ).s = σ.s ∧ (dr2 o σ).lp = σ.lp := by
  unfold dr2
  split
  · exact drain_s _
  · exact drain_s _
  · exact drain_s _
  · exact ⟨rfl, rfl⟩
  · exact ⟨rfl, rfl⟩
theorem look_step2 (o : IOper) (v : AV) (i : Nat) : look (step2 σ o v).e i = if tgt o = some i then v else dz o i (look σ.e i) := by
 unfold step2
 rw [← look_dr2]
 cases hd : tgt o with
 | none => simp [St.put, (lpReg_same (dr2 o σ) v none).1]
 | some d =>
  show look ((d, v) :: (lpReg (dr2 o σ) v (some d)).e) i = _
  rw [look_cons, (lpReg_same (dr2 o σ) v (some d)).1]
  simp
theorem step2_s (o : IOper) (v : AV) : (step2 σ o v).s = σ.s := by
 unfold step2
 have : ∀ (τ : St) (d : Option Nat) (x : AV), (τ.put d x).s = τ.s := fun τ d x => by cases d <;> rfl
 rw [this, (lpReg_same (dr2 o σ) v (tgt o)).2.1, (dr2_s o).1]
theorem step2_lp (o : IOper) (v : AV) (x : Nat × Nat) : x ∈ (step2 σ o v).lp ↔ (x ∈ σ.lp ∨ ∃ i, tgt o = some i ∧ x.1 = i ∧ holdsLp v x.2) := by
 have h1 : (step2 σ o v).lp = (lpReg (dr2 o σ) v (tgt o)).lp := by unfold step2; cases tgt o <;> rfl
 rw [h1, ← (dr2_s (σ := σ) o).2]
 exact lpReg_lp v (tgt o) x
def NoLp (T : List Nat) (σ : St) : Prop := ∀ i c, c ∈ T → ¬ holdsLp (look σ.e i) c
def lpSafe (T : List Nat) (o : IOper) (v : AV) : Prop := ∀ i, tgt o = some i → ∀ c, c ∈ T → ¬ holdsLp v c
def inT (T : List Nat) (o : IOper) : Prop := ∀ c, isLw o = some c → c ∈ T
theorem lpNot_no : ∀ {c : Nat} {a : AV}, lpNot c a = true → ¬ holdsLp a c
 | c, .lp t o, h => fun (e : t = c) => by
  subst e
  have h' : (!Nat.beq t t) = true := h
  rw [Nat.beq_refl] at h'
  cases h'
 | c, .when b a, h => lpNot_no (a := a) h
 | _, .undef, _ | _, .bool _, _ | _, .int _ _, _ | _, .str _, _ | _, .nilp, _ | _, .ref _ _, _ | _, .sp _, _ | _, .loc _, _ | _, .sl _ _ _ _, _ | _, .arr _ _ _ _, _ | _, .agg _, _ | _, .tup _, _ | _, .fn _ _ _, _ | _, .nilf, _ | _, .mp _, _ | _, .nilm, _ | _, .us _ _ _, _ | _, .one, _ | _, .btag _, _ | _, .nili, _ | _, .bb _ _ _, _ => fun h => h
theorem lpNots_no : ∀ {T : List Nat} {a : AV}, lpNots T a = true → ∀ c, c ∈ T → ¬ holdsLp a c
  | c' :: T, a, h, c, hc => by
    have h' : (lpNot c' a && lpNots T a) = true := h
    rw [Bool.and_eq_true] at h'
    rcases List.mem_cons.1 hc with rfl | hc
    · exact lpNot_no h'.1
    · exact lpNots_no h'.2 c hc
theorem noLpB_no : ∀ {e : List (Nat × AV)}, noLpB T e = true → ∀ i c, c ∈ T → ¬ holdsLp (look e i) c
  | [], _, i, c, _ => fun h => h
  | (j, a) :: e, h, i, c, hc => by
    have h' : (lpNots T a && noLpB T e) = true := h
    rw [Bool.and_eq_true] at h'
    rw [look_cons]
    split
    · exact lpNots_no h'.1 c hc
    · exact noLpB_no h'.2 i c hc
theorem view_holds {v : AV} {c : Nat} (h : holdsLp (view v) c) : holdsLp v c := by cases v <;> first | exact h | exact h.elim
theorem dz_holds {o : IOper} {i : Nat} {a : AV} {c : Nat} (h : holdsLp (dz o i a) c) : holdsLp a c := by
  unfold dz at h
  split at h
  · split at h
    · exact drainA_holds h
    · exact view_holds h
  · exact h
theorem dz_notLoc (o : IOper) (i : Nat) (a : AV) : notLoc (dz o i a) = notLoc a := by
  unfold dz
  split
  · split
    · exact drainA_notLoc _ _
    · exact notLoc_view _
  · rfl
theorem dz_no {o : IOper} {i : Nat} {a : AV} (h : ¬ drained2 o i = true) : dz o i a = a := if_neg h
theorem dz_comm (x y : IOper) (i : Nat) (a : AV) : dz x i (dz y i a) = dz y i (dz x i a) := by
  unfold dz
  by_cases h1 : drained2 x i = true <;> by_cases h2 : drained2 y i = true <;> simp only [h1, h2, if_true, if_false, Bool.false_eq_true]
  split <;> split
  · exact drainA_comm _ _ _
  · exact (view_drainA _ _).symm
  · exact view_drainA _ _
  · rfl
theorem rdLoc_drainA (m off o : Nat) (a : AV) : rdLoc m off (drainA o a) = rdLoc m off a := by
  cases a <;> first | rfl | skip
  rename_i cs
  have hv : views (match cs[o]? with | some (.sl _ sz n ds) => setAt cs o [.sl false sz n ds] | _ => cs) = views cs := by
    apply List.ext_getElem?
    intro j
    rw [views_get, views_get, drainL_get]
    by_cases hj : j = o
    · rw [if_pos hj]
      cases cs[j]? with
      | none => rfl
      | some b => cases b <;> rfl
    · rw [if_neg hj]
  have hlen : (match cs[o]? with | some (.sl _ sz n ds) => setAt cs o [.sl false sz n ds] | _ => cs).length = cs.length := by
    have := congrArg List.length hv
    simpa [views] using this
  show rdCells m off _ = rdCells m off cs
  generalize (match cs[o]? with | some (.sl _ sz n ds) => setAt cs o [.sl false sz n ds] | _ => cs) = cs' at hv hlen ⊢
  unfold rdCells
  rw [hlen]
  have hs : views (AB.sub cs' off m) = views (AB.sub cs off m) := by
    unfold AB.sub views
    unfold views at hv
    rw [List.map_take, List.map_drop, List.map_take, List.map_drop, hv]
  rw [hs]
theorem rdLoc_dz (m off : Nat) (o : IOper) (i : Nat) (a : AV) : rdLoc m off (dz o i a) = rdLoc m off a := by
  unfold dz
  split
  · split
    · exact rdLoc_drainA _ _ _ _
    · exact rdLoc_view ..
  · rfl
theorem step2_noLp {o : IOper} {v : AV} (h : NoLp T σ) (hs : lpSafe T o v) : NoLp T (step2 σ o v) := fun i c hc => by
  rw [look_step2]
  split
  · rename_i ht; exact hs i ht c hc
  · exact fun hh => h i c hc (dz_holds hh)
theorem lpSafe_of {o : IOper} {v : AV} (h : NoLp T (step2 σ o v)) : lpSafe T o v := fun i hi c hc => by
 have := h i c hc
 rw [look_step2, if_pos hi] at this
 exact this
theorem rd_step2 {o : IOper} {v : AV} (hy : Y2 P σ o v) (p : AV) (m : Nat) (hp : ∀ c, isLw o = some c → ¬ holdsLp p c) : rd (step2 σ o v) p m = rd σ p m := by
  cases p <;> try rfl
  · rename_i b off
    show rdSO m off ((step2 σ o v).s b) = rdSO m off (σ.s b)
    rw [step2_s]
  · rename_i d off
    show rdLoc m off (look (step2 σ o v).e d) = rdLoc m off (look σ.e d)
    rw [look_step2]
    by_cases hd : tgt o = some d
    · rw [if_pos hd]
      cases hy with
      | old _ _ h0 hf hv h =>
        rw [tgt_old h0] at hd
        rw [hd] at hf
        rw [rdLoc_no hv]
        exact (rdLoc_no hf m off).symm
      | sto m' c x old h0 h1 h2 h3 =>
        have e : some c = some d := hd
        injection e with e
        subst e
        exact (hp c rfl rfl).elim
      | alo d' z h0 h1 =>
        have e : some d' = some d := hd
        injection e with e
        subst e
        exact (hp d' rfl rfl).elim
      | app d' sz bytes x y _ h0 h1 =>
        have e : some d' = some d := hd
        injection e with e
        subst e
        obtain ⟨k, cs, rfl⟩ := appV_sl h1
        rw [rdLoc_no (av := .sl true sz k cs) rfl]
        exact (rdLoc_no h0 m off).symm
      | lod d' off' i x cs o s m' ds h0 h1 h2 h3 h4 =>
        have e : some d' = some d := hd
        injection e with e
        subst e
        rw [rdLoc_no (av := .sl o s m' ds) rfl]
        exact (rdLoc_no h0 m off).symm
    · rw [if_neg hd]
      exact rdLoc_dz ..
theorem cOK_c {o : IOper} (h : cOK o = true) {a : AV} (ha : IX.c a ∈ opIX o.op) (c : Nat) : ¬ holdsLp a c := by
 have := List.all_eq_true.1 h _ ha
 cases a <;> first | exact fun h => h | (cases this; done)
theorem unw_holds {g : Bool} : ∀ {a : AV} {c : Nat}, holdsLp (unw g a) c → holdsLp a c := by
  intro a c h
  cases a
  case when b a =>
    have h' : holdsLp (bif (b == g || b) && inner a then a else AV.undef) c := h
    cases hb : ((b == g || b) && inner a) <;> rw [hb] at h'
    · exact h'.elim
    · exact h'
  all_goals exact h
theorem xg_holds {o : IOper} (hc : cOK o = true) (h : NoLp T σ) {x : IX} (hx : x ∈ opIX o.op) (g : Bool) {c : Nat} (ht : c ∈ T) : ¬ holdsLp (xg g σ x) c := fun hh => by
 have h' := unw_holds hh
 cases x with
 | c a => exact cOK_c hc hx c h'
 | t i => exact h i c ht h'
theorem agr_step2 {o y : IOper} {v : AV} (hy : Y2 P σ y v) (hn : notIn (tgt y) (slots o) = true) (hdr : noDr2 y o = true) (hc : cOK o = true) (hN : NoLp T σ) (hT : inT T y) : Agr o σ (step2 σ y v) := by
  have key : ∀ i, i ∈ slots o → look (step2 σ y v).e i = look σ.e i := by
    intro i hi
    have h1 : ¬ drained2 y i = true := by
      have := List.all_eq_true.1 hdr i hi
      simpa using this
    rw [look_step2, if_neg, dz_no h1]
    intro hd
    rw [hd] at hn
    simp [notIn] at hn
    exact hn hi
  refine ⟨fun x hx => ?_, fun t want hg => ?_, (step2_s y v).symm, fun x hx g m => (rd_step2 hy _ m fun c hc' => xg_holds hc hN hx g (hT c hc')).symm⟩
  · cases x with
    | c a => rfl
    | t i => exact (key i (List.mem_append_right _ (mem_ixSlots hx))).symm
  · exact (key t (List.mem_append_left _ (by rw [hg]; exact List.mem_cons_self))).symm
theorem Y2.agr {o : IOper} {v : AV} (hy : Y2 P σ o v) (h : Agr o σ σ') (hf : ∀ i, o.dst = some i → notLoc (look σ'.e i) = notLoc (look σ.e i)) (hl : ∀ i, isLw o = some i → lpFree σ.lp (some i) = true → lpFree σ'.lp (some i) = true) : Y2 P σ' o v := by
 cases hy with
 | old _ _ h0 hs hv h1 =>
  refine .old o v h0 ?_ hv (h1.agr h)
  cases hd : o.dst with
  | none => rfl
  | some i =>
   rw [hd] at hs
   show notLoc (look σ'.e i) = true
   rw [hf i hd]; exact hs
 | sto m c x old h0 h1 h2 h3 =>
  have e1 : look σ.e c = look σ'.e c := h.xs (.t c) (by simp [opIX])
  have e2 : σ.x x = σ'.x x := h.xs x (by simp [opIX])
  rw [e2] at h2 h3 ⊢
  exact .sto m c x old (by rw [← e1]; exact h0) h1 h2 h3
 | alo d z h0 h1 => exact .alo d z (by rw [hf d rfl]; exact h0) (hl d rfl h1)
 | app d sz bytes x y _ h0 h1 =>
  have e1 : σ.x x = σ'.x x := h.xs x (by simp [opIX])
  have e2 : σ.x y = σ'.x y := h.xs y (by simp [opIX])
  exact .app d sz bytes x y v (by rw [hf d rfl]; exact h0) (by rw [← e1, ← e2]; exact h1)
 | lod d off i x cs o s m ds h0 h1 h2 h3 h4 =>
  have e1 : σ.x x = σ'.x x := h.xs x (by simp [opIX])
  have e2 : look σ.e i = look σ'.e i := h.xs (.t i) (by simp [opIX])
  exact .lod d off i x cs o s m ds (by rw [hf d rfl]; exact h0) (by rw [← e1]; exact h1) (by rw [← e2]; exact h2) h3 h4
theorem Eqv.step2 (h : Eqv σ σ') (o : IOper) (v : AV) : Eqv (AB.step2 σ o v) (AB.step2 σ' o v) :=
 ⟨fun i => by rw [look_step2, look_step2, h.e], fun x => by rw [step2_lp, step2_lp, h.lp], by rw [step2_s, step2_s, h.s]⟩
theorem lpFree_mono {l l' : List (Nat × Nat)} {i : Nat} (h : ∀ x ∈ l', x.2 = i → x ∈ l) (hf : lpFree l (some i) = true) : lpFree l' (some i) = true := by
 refine List.all_eq_true.2 fun x hx => ?_
 cases hb : Nat.beq x.2 i with
 | false => rfl
 | true =>
  have := List.all_eq_true.1 hf x (h x hx (Nat.eq_of_beq_eq_true hb))
  rw [hb] at this
  cases this
theorem Y2.eqv {o : IOper} {v : AV} (hy : Y2 P σ o v) (h : Eqv σ σ') : Y2 P σ' o v :=
 hy.agr (h.agr o) (fun i _ => by rw [h.e]) fun i _ hf => lpFree_mono (fun x hx _ => (h.lp x).2 hx) hf
theorem step2_comm {x y : IOper} {u v : AV} (hne : ∀ i j, tgt x = some i → tgt y = some j → i ≠ j) (hxy : ∀ i, tgt y = some i → drained2 x i = false) (hyx : ∀ i, tgt x = some i → drained2 y i = false) : Eqv (step2 (step2 σ x u) y v) (step2 (step2 σ y v) x u) :=
  ⟨fun i => by
    rw [look_step2, look_step2, look_step2, look_step2]
    by_cases h1 : tgt y = some i
    · by_cases h2 : tgt x = some i
      · exact absurd rfl (hne i i h2 h1)
      · rw [if_pos h1, if_neg h2, if_pos h1, dz_no (by rw [hxy i h1]; decide)]
    · by_cases h2 : tgt x = some i
      · rw [if_neg h1, if_pos h2, if_pos h2, dz_no (by rw [hyx i h2]; decide)]
      · rw [if_neg h1, if_neg h2, if_neg h2, if_neg h1]
        exact dz_comm _ _ _ _, fun z => by
    rw [step2_lp, step2_lp, step2_lp, step2_lp]
    constructor
    · rintro ((h | h) | h)
      · exact .inl (.inl h)
      · exact .inr h
      · exact .inl (.inr h)
    · rintro ((h | h) | h)
      · exact .inl (.inl h)
      · exact .inr h
      · exact .inl (.inr h), by rw [step2_s, step2_s, step2_s, step2_s]⟩
theorem setAt_all {old news : List AV} (h : news.length = old.length) : setAt old 0 news = news := by
 unfold setAt
 rw [List.take_zero, List.nil_append, Nat.zero_add, h, List.drop_length, List.append_nil]
theorem gwp_app (d sz bytes : Nat) (x y : IX) (K : St → Prop) : gwp P ⟨some d, .append sz bytes x y, none⟩ σ K = appendW sz bytes σ x (some d) K (σ.x x) (σ.x y) := by
 rw [gwp_none, pvn_append]
 unfold nxt iwp
 rfl
theorem Y2.run (h : Inv G n D σ a w) {ops : Array Oper} {o : Oper} {o' : IOper} {v : AV} (hc : chkOper P n ops o o' = true) (hy : Y2 P σ o' v) {next : Act → World → Prop} {Q : Exit → Act → World → Prop}
  (hn : ∀ G' a' w', Inv G' n D (step2 σ o' v) a' w' → Pres G w G' w' → next a' w') : oneP P ops o a w next Q := by
 have gen : gwp P o' σ (fun τ => τ = step2 σ o' v) → oneP P ops o a w next Q := fun hg => gwp_sound h hc hg fun G' σ' a' w' h1 h2 h3 => by subst h3; exact hn G' a' w' h1 h2
 cases hy with
 | old _ _ h0 _ _ h1 => exact h1.run h hc fun G' a' w' k1 k2 => hn G' a' w' (by rw [step2_old h0]; exact k1) k2
 | sto m c x old h0 h1 h2 h3 =>
  refine gen ?_
  show storeW m σ (.t c) x none _ (σ.x x)
  refine ⟨h2, h3, ?_⟩
  have e : wrSt (σ.drain x) (σ.x (.t c)) (.t c) (stCells (σ.x x)) = some ((σ.drain x).put (some c) (.loc (stCells (σ.x x)))) := by
   have e1 : σ.x (.t c) = .loc old := h0
   rw [e1]
   show wrL (σ.drain x) c (wrCells 0 (stCells (σ.x x)) old) = _
   unfold wrCells
   rw [decide_eq_true (by omega), setAt_all (by omega)]
   rfl
  rw [e]
  rfl
 | alo d z h0 h1 => exact gen ⟨h1, rfl⟩
 | app d sz bytes x y _ h0 h1 =>
  refine gen ?_
  rw [gwp_app]
  refine appV_W (d := some d) (x := x) h1 ?_
  obtain ⟨k, cs, rfl⟩ := appV_sl h1
  rfl
 | lod d off i x cs o s m ds h0 h1 h2 h3 h4 =>
  refine gen ?_
  rw [gwp_none, pvn_loadE]
  show isLpAt (.t i) off (σ.x x) = true ∧ loadDW σ (some d) _ (σ.x x)
  rw [h1]
  refine ⟨by simp [isLpAt], ?_⟩
  show match look σ.e i with | .loc cs => some d ≠ some i ∧ takeL off cs _ | _ => False
  rw [h2]
  refine ⟨fun e => h4 (by injection e), ?_⟩
  unfold takeL
  rw [h3]
  show (σ.put (some i) _).put (some d) _ = _
  unfold step2 dr2
  simp only [h2, drainA, h3]
  rfl
theorem qwpT_seq {ops : Array Oper} {Q : Exit → Act → World → Prop} {K : St → Prop} (G₀ : Gh) (w₀ : World)
  (hn : ∀ G' σ' a' w', Inv G' n D σ' a' w' → Pres G₀ w₀ G' w' → K σ' → Q .normal a' w') : ∀ (q : Nat) (l : List Oper) (l' : List IOper) (G : Gh) (σ : St) (a : Act) (w : World), chkOpers P n ops l l' = true → Inv G n D σ a w → Pres G₀ w₀ G w → qwpT P T q l' σ K → wpList P ops Q l a w
 | 0, l, l', G, σ, a, w, hc, h, hp, hk => swp_sound G₀ w₀ hn l l' G σ a w hc h hp hk
 | _ + 1, [], [], G, σ, a, w, _, h, hp, hk => hn G σ a w h hp hk
 | q + 1, o :: l, o' :: l', G, σ, a, w, hc, h, hp, hk => by
  simp only [chkOpers, Bool.and_eq_true] at hc
  obtain ⟨v, hy, hk⟩ := q2_inv hk
  show oneP P ops o a w (wpList P ops Q l) Q
  exact hy.run h hc.1 fun G' a' w' h1 h2 => qwpT_seq G₀ w₀ hn q l l' G' _ a' w' hc.2 h1 (hp.trans h2) hk.2
 | _ + 1, [], _ :: _, _, _, _, _, hc, _, _, _ => by simp [chkOpers] at hc
 | _ + 1, _ :: _, [], _, _, _, _, hc, _, _, _ => by simp [chkOpers] at hc
def Chain2 (P : Program) (T : List Nat) : St → Pend → Prop
 | _, [] => True
 | σ, (_, o, v) :: r => Y2 P σ o v ∧ lpSafe T o v ∧ inT T o ∧ Chain2 P T (step2 σ o v) r
def fin2 : St → Pend → St
 | σ, [] => σ
 | σ, (_, o, v) :: r => fin2 (step2 σ o v) r
theorem Chain2.eqv : ∀ {p : Pend} {σ σ' : St}, Eqv σ σ' → Chain2 P T σ p → Chain2 P T σ' p
 | [], _, _, _, _ => trivial
 | (_, o, v) :: r, _, _, h, ⟨h1, h2, h3, h4⟩ => ⟨h1.eqv h, h2, h3, Chain2.eqv (h.step2 o v) h4⟩
theorem fin2_eqv : ∀ (p : Pend) {σ σ' : St}, Eqv σ σ' → Eqv (fin2 σ p) (fin2 σ' p)
 | [], _, _, h => h
 | (_, o, v) :: r, _, _, h => fin2_eqv r (h.step2 o v)
theorem drained2_slots {o : IOper} {i : Nat} (h : drained2 o i = true) : i ∈ slots o := by
  unfold drained2 at h
  split at h
  · rename_i j hop
    have : j = i := by simpa using h
    subst this
    refine List.mem_append_right _ ?_
    rw [hop]; exact List.mem_cons_self
  · rename_i m p j hop
    have : j = i := by simpa using h
    subst this
    refine List.mem_append_right _ ?_
    rw [hop]
    cases p with
    | t k => exact List.mem_cons_of_mem _ List.mem_cons_self
    | c k => exact List.mem_cons_self
  · rename_i sz bytes j y hop
    have : j = i := by simpa using h
    subst this
    refine List.mem_append_right _ ?_
    rw [hop]; exact List.mem_cons_self
  · rename_i off j x hop
    have : j = i := by simpa using h
    subst this
    refine List.mem_append_right _ ?_
    rw [hop]; exact List.mem_cons_self
  · cases h
theorem ap2_spec {x y : IOper} (h : ap2 x y = true) : notIn (tgt x) (slots y) = true ∧ notIn (tgt y) (slots x) = true ∧ (∀ i j, tgt x = some i → tgt y = some j → i ≠ j) ∧ noDr2 x y = true ∧ noDr2 y x = true ∧ (∀ i, tgt y = some i → drained2 x i = false) ∧ (∀ i, tgt x = some i → drained2 y i = false) ∧ cOK x = true ∧ cOK y = true := by
  unfold ap2 at h
  simp only [Bool.and_eq_true] at h
  obtain ⟨⟨⟨⟨⟨c1, c2⟩, d1, d2⟩, n1⟩, n2⟩, hm⟩ := h
  refine ⟨n1, n2, fun i j hi hj => ?_, d1, d2, fun i hi => ?_, fun i hi => ?_, c1, c2⟩
  · rw [hi, hj] at hm
    simpa using hm
  · rw [hi] at n2
    simp [notIn] at n2
    cases hd : drained2 x i with
    | false => rfl
    | true => exact absurd (drained2_slots hd) n2
  · rw [hi] at n1
    simp [notIn] at n1
    cases hd : drained2 y i with
    | false => rfl
    | true => exact absurd (drained2_slots hd) n1
theorem dst_tgt {o : IOper} {i : Nat} (h : o.dst = some i) : tgt o = some i := by
 obtain ⟨d, op, g⟩ := o
 have h' : d = some i := h
 subst h'
 cases op <;> rfl
theorem notLoc_step2 {y : IOper} {v : AV} {i : Nat} (h : tgt y ≠ some i) : notLoc (look (step2 σ y v).e i) = notLoc (look σ.e i) := by
 rw [look_step2, if_neg h]
 exact dz_notLoc _ _ _
theorem pull2 {x : Nat × IOper × AV} : ∀ (pre : Pend) (post : Pend) (σ : St), NoLp T σ → (∀ y ∈ pre, ap2 y.2.1 x.2.1 = true) → Chain2 P T σ (pre ++ x :: post) →
    Y2 P σ x.2.1 x.2.2 ∧ lpSafe T x.2.1 x.2.2 ∧ inT T x.2.1 ∧ Chain2 P T (step2 σ x.2.1 x.2.2) (pre ++ post) ∧ Eqv (fin2 (step2 σ x.2.1 x.2.2) (pre ++ post)) (fin2 σ (pre ++ x :: post))
  | [], post, σ, _, _, h => ⟨h.1, h.2.1, h.2.2.1, h.2.2.2, Eqv.refl _⟩
  | (k, o, v) :: pre, post, σ, hN, hap, h => by
    obtain ⟨h1, h2, h3, h4⟩ := h
    obtain ⟨i1, i2, i3, i4, i5⟩ := pull2 pre post (step2 σ o v) (step2_noLp hN h2) (fun y hy => hap y (List.mem_cons_of_mem _ hy)) h4
    obtain ⟨a1, a2, a3, a4, a5, a6, a7, c1, c2⟩ := ap2_spec (hap (k, o, v) List.mem_cons_self)
    have hx : Y2 P σ x.2.1 x.2.2 := i1.agr (agr_step2 h1 a1 a4 c2 hN h3).symm
      (fun i hi => (notLoc_step2 fun e => a3 i i e (dst_tgt hi) rfl).symm)
      (fun i hi hf => lpFree_mono (fun z hz _ => (step2_lp o v z).2 (.inl hz)) hf)
    have ho : Y2 P (step2 σ x.2.1 x.2.2) o v := h1.agr (agr_step2 hx a2 a5 c1 hN i3)
      (fun i hi => notLoc_step2 fun e => a3 i i (dst_tgt hi) e rfl)
      (fun i hi hf => lpFree_mono (fun z hz hzi => by
        rcases (step2_lp _ _ z).1 hz with hz | ⟨j, j1, _, j3⟩
        · exact hz
        · rw [hzi] at j3; exact (i2 j j1 i (h3 i hi) j3).elim) hf)
    have hcomm : Eqv (step2 (step2 σ o v) x.2.1 x.2.2) (step2 (step2 σ x.2.1 x.2.2) o v) := step2_comm a3 a6 a7
    refine ⟨hx, i2, i3, ⟨ho, h2, h3, i4.eqv hcomm⟩, ?_⟩
    exact (fin2_eqv (pre ++ post) hcomm.symm).trans i5
end
section
variable {P : Program} {G G' : Gh} {n : Nat} {D : List Deferred} {σ σ' : St} {a : Act} {w w' : World} {ops : Array Oper} {iops : List IOper} {q : Nat} {T : List Nat}
theorem chkLoc_in {l : List IOper} {o : IOper} (h : chkLoc T iops q = true) (hl : l = iops.take q) (ho : o ∈ l) : inT T o := fun c hc => by
  subst hl
  have := List.all_eq_true.1 h o ho
  unfold isLw at hc
  split at hc
  · injection hc with hc; subst hc; simpa using this
  · injection hc with hc; subst hc; simpa using this
  · cases hc
theorem qwpT_pend {K : St → Prop} : ∀ (q : Nat) (l : List IOper) (σ : St) (k : Nat), q ≤ l.length → (∀ o ∈ l.take q, inT T o) → qwpT P T q l σ K → ∃ vs : List AV, vs.length = q ∧ Chain2 P T σ (mk k l vs) ∧ swp P (l.drop q) (fin2 σ (mk k l vs)) K
 | 0, l, σ, k, _, _, h => ⟨[], rfl, by cases l <;> trivial, by cases l <;> exact h⟩
 | q + 1, [], _, _, hl, _, _ => by simp at hl
 | q + 1, o :: l, σ, k, hl, hT, h => by
  obtain ⟨v, hy, hno, hk⟩ := q2_inv (show q2 P o σ (fun τ => noLpB T τ.e = true ∧ qwpT P T q l τ K) from h)
  obtain ⟨vs, h2, h3, h4⟩ := qwpT_pend q l (step2 σ o v) (k + 1) (by simpa using hl) (fun o' ho' => hT o' (by rw [List.take_succ_cons]; exact List.mem_cons_of_mem _ ho')) hk
  exact ⟨v :: vs, by simp [h2], ⟨hy, lpSafe_of fun i c hc => noLpB_no hno i c hc, hT o (by rw [List.take_succ_cons]; exact List.mem_cons_self), h3⟩, h4⟩
theorem run_pend2 {Q : Exit → Act → World → Prop} (G₀ : Gh) (w₀ : World) (f : Nat) (hc : chkOpers P n ops ops.toList iops = true) (hq : q ≤ ops.size) (h1 : chkS1 ops q = true) (h2 : chkS2 ops q = true) (h3 : chkS3T ops q iops = true) (h4 : q < ops.size → Region.ready .any ops (upTo ops.size q) = [q]) :
    ∀ (m : Nat) (pend : Pend), pend.length = m → ∀ (listed : Array Bool) (σ : St), Good ops iops q pend listed → NoLp T σ → Chain2 P T σ pend →
      (∀ G a w, Inv G n D (fin2 σ pend) a w → Pres G₀ w₀ G w → wpAny P .any ops Q f (upTo ops.size q) a w) → ∀ (G : Gh) (a : Act) (w : World), Inv G n D σ a w → Pres G₀ w₀ G w → wpAny P .any ops Q (m + f) listed a w := by
  intro m
  induction m with
  | zero =>
    intro pend hp listed σ hg _ _ hT G a w h hpr
    have : pend = [] := List.eq_nil_of_length_eq_zero hp
    subst this
    rw [upTo_eq hg, Nat.zero_add]
    exact hT G a w h hpr
  | succ m ih =>
    intro pend hp listed σ hg hNo hch hT G a w h hpr
    obtain ⟨hlen, hget⟩ := chkOpers_get _ _ hc
    rw [show m + 1 + f = (m + f) + 1 by omega]
    refine ⟨fun h0 => ?_, fun i hi => ?_⟩
    · -- the first that waits is ready
      cases pend with
      | nil => simp at hp
      | cons x pend =>
        obtain ⟨k, o, v⟩ := x
        obtain ⟨u1, u2, u3⟩ := hg.un k o v List.mem_cons_self
        have hmem : k ∈ Region.ready .any ops listed := by
          have hk : k < ops.size := by omega
          refine mem_ready.2 ⟨u2, ops[k], Array.getElem?_eq_getElem hk, fun e he hb => ?_⟩
          have hs := List.all_eq_true.1 h1 k (List.mem_range.2 u1)
          rw [Array.getElem?_eq_getElem hk] at hs
          have := Array.all_eq_true_iff_forall_mem.1 hs e he
          rw [hb] at this
          have hlt : e.on < k := by simpa using this
          refine hg.li e.on (by omega) fun o' v' hm => ?_
          rcases List.mem_cons.1 hm with hm | hm
          · injection hm with hm; omega
          · have := (List.pairwise_cons.1 hg.sorted).1 _ hm
            simp at this
            omega
        rw [h0] at hmem
        cases hmem
    · obtain ⟨r1, r2, r3⟩ := mem_ready' hi
      have hne : ∃ k o v, (k, o, v) ∈ pend := by
        cases pend with
        | nil => simp at hp
        | cons x pend => exact ⟨x.1, x.2.1, x.2.2, List.mem_cons_self⟩
      -- it is one of those that wait
      have hiq : i < q := by
        refine Classical.byContradiction fun hge => ?_
        have hqs : q < ops.size := by omega
        by_cases hiq' : i = q
        · subst hiq'
          have hall : ∀ (d k : Nat), k < i → i - k = d → listed.getD k false = true := by
            intro d
            induction d using Nat.strongRecOn with
            | _ d ihd =>
              intro k hk hd
              have hs : ((List.range i).all fun k => (List.range (i + 1)).any fun m => decide (k < m) && bindsOn ops m k) = true := by
                unfold chkS2 at h2
                rw [Bool.or_eq_true] at h2
                rcases h2 with h2 | h2
                · have := beq_iff_eq.1 h2; omega
                · exact h2
              obtain ⟨m', hm1, hm2⟩ := List.any_eq_true.1 (List.all_eq_true.1 hs k (List.mem_range.2 hk))
              rw [Bool.and_eq_true, decide_eq_true_eq] at hm2
              have hm1' := List.mem_range.1 hm1
              by_cases hmi : m' = i
              · subst hmi; exact r3 k hm2.2
              · exact hg.cl m' (by omega) (ihd (i - m') (by omega) m' (by omega) rfl) k hm2.2
          obtain ⟨k, o, v, hk⟩ := hne
          obtain ⟨u1, u2, u3⟩ := hg.un k o v hk
          have := getD_ft (hall _ k u1 rfl)
          rw [u2] at this
          cases this
        · have hnr : i ∉ Region.ready .any ops (upTo ops.size q) := by rw [h4 hqs]; simpa using hiq'
          apply hnr
          refine mem_ready.2 ⟨?_, ops[i], Array.getElem?_eq_getElem r1, fun e he hb => ?_⟩
          · simp [upTo, r1]; omega
          · have hl := r3 e.on ((bindsOn_iff (Array.getElem?_eq_getElem r1)).2 ⟨e, he, hb, rfl⟩)
            have hlt : e.on < q := by
              refine Classical.byContradiction fun hnl => ?_
              by_cases hs : e.on < ops.size
              · have := hg.tl e.on (by omega) hs
                have := getD_ft hl
                simp_all
              · have : listed.getD e.on false = false := by simp [Array.getElem?_eq_none (show listed.size ≤ e.on by rw [hg.size]; omega)]
                rw [this] at hl; cases hl
            simp [upTo, show e.on < ops.size by omega, hlt]
      have hin : ∃ o v, (i, o, v) ∈ pend := by
        apply Classical.byContradiction
        intro hno
        have := hg.li i hiq fun o v hm => hno ⟨o, v, hm⟩
        have := getD_ft this
        rw [r2] at this
        cases this
      obtain ⟨o', v, hin⟩ := hin
      obtain ⟨pre, post, rfl⟩ := List.append_of_mem hin
      have hsort := List.pairwise_append.1 hg.sorted
      have hap : ∀ y ∈ pre, ap2 y.2.1 o' = true := by
        intro y hy
        obtain ⟨k, o, u⟩ := y
        have hlt : k < i := hsort.2.2 _ hy _ List.mem_cons_self
        obtain ⟨u1, u2, u3⟩ := hg.un k o u (List.mem_append_left _ hy)
        obtain ⟨_, _, u4⟩ := hg.un i o' v (by simp)
        have hs := List.all_eq_true.1 (List.all_eq_true.1 h3 i (List.mem_range.2 hiq)) k (List.mem_range.2 hlt)
        rw [Bool.or_eq_true] at hs
        rcases hs with hs | hs
        · have := getD_ft (r3 k hs)
          rw [u2] at this
          cases this
        · unfold apAt2 at hs
          rw [u3, u4] at hs
          exact hs
      obtain ⟨p1, p2, p3, p4, p5⟩ := pull2 pre post σ hNo hap hch
      obtain ⟨_, _, u4⟩ := hg.un i o' v (by simp)
      have ho : ops.toList[i]? = some ops[i] := by simp [r1]
      refine wpOp_one (o := ops[i]) (by simp [r1]) (Y2.run h (hget i _ _ ho u4) p1 fun G' a' w' k1 k2 => ?_)
      exact ih (pre ++ post) (by simp at hp ⊢; omega) _ (step2 σ o' v) (good_step hg hi) (step2_noLp hNo p2) p4 (fun G'' a'' w'' z1 z2 => hT G'' a'' w'' (z1.eqv p5) z2) G' a' w' k1 (hpr.trans k2)
theorem draw_t (hm : P.follows .mixedOrders = true) : DrawT P n := by
  intro D draw id ops iops T q G σ a w K Q hc hd h hno hw hn
  cases draw with
  | false => exact wp_region_list (qwpT_seq G w hn q ops.toList iops G σ a w hc h (Pres.refl G w) hw)
  | true =>
  have hd := hd rfl
  simp only [chkDrT, Bool.and_eq_true, decide_eq_true_eq] at hd
  obtain ⟨hq, h1, h2, h3, hl0, h4⟩ := hd
  obtain ⟨hlen, hget⟩ := chkOpers_get _ _ hc
  have hsz : iops.length = ops.size := by rw [← hlen]; simp
  obtain ⟨vs, e1, e2, e3⟩ := qwpT_pend q iops σ 0 (by omega) (fun o ho => chkLoc_in hl0 rfl ho) hw
  have hmk : (mk 0 iops vs).length = q := by
    have : ∀ (l : List IOper) (vs : List AV) (k : Nat), vs.length ≤ l.length → (mk k l vs).length = vs.length := by
      intro l
      induction l with
      | nil => intro vs k hl; cases vs with
        | nil => rfl
        | cons => simp at hl
      | cons o l ih => intro vs k hl; cases vs with
        | nil => rfl
        | cons v vs => simp [mk, ih vs (k + 1) (by simpa using hl)]
    rw [this iops vs 0 (by omega), e1]
  refine wp_region_any hm ?_
  have hrq : q < ops.size → Region.ready .any ops (upTo ops.size q) = [q] := by
    intro hlt
    obtain ⟨d, hd⟩ : ∃ d, ops.size - q = d + 1 := ⟨ops.size - q - 1, by omega⟩
    rw [hd] at h4
    simp only [chkTail, Bool.and_eq_true, beq_iff_eq] at h4
    exact h4.1
  have hT : ∀ G' a' w', Inv G' n D (fin2 σ (mk 0 iops vs)) a' w' → Pres G w G' w' → wpAny P .any ops Q (ops.size - q) (upTo ops.size q) a' w' := by
    intro G' a' w' z1 z2
    have hl : (iops.drop q).length = ops.size - q := by rw [List.length_drop]; omega
    have := tail_sound G w hc hn (iops.drop q) q (upTo ops.size q) G' _ a' w' rfl (by rw [hl]; exact h4) e3 z1 z2
    rwa [hl] at this
  have hgood : Good ops iops q (mk 0 iops vs) (Array.replicate ops.size false) := by
    have hrep : ∀ k b, k < ops.size → (Array.replicate ops.size false).getD k b = false := fun k b hk => by simp [hk]
    refine ⟨by simp, fun k o v hk => ?_, fun k hk hno => ?_, fun j _ hj => hrep j _ hj, fun m hm hl i hi => ?_, mk_sorted iops vs 0⟩
    · obtain ⟨j, j1, j2, j3⟩ := mk_mem iops vs 0 k o v hk
      have : k = j := by omega
      subst this
      exact ⟨by omega, hrep k _ (by omega), j3⟩
    · obtain ⟨o, v, hh⟩ := mk_has iops vs 0 k (by omega) (by omega)
      rw [Nat.zero_add] at hh
      exact absurd hh (hno o v)
    · rw [hrep m _ (by omega)] at hl; cases hl
  have := run_pend2 (T := T) (P := P) (n := n) (Q := Q) G w (ops.size - q) hc hq h1 h2 h3 hrq q (mk 0 iops vs) hmk _ σ hgood (fun i c hc => noLpB_no hno i c hc) e2 hT G a { w with drawn := w.drawn + 1 } h.drew (Pres.drew G w)
  rwa [show q + (ops.size - q) = ops.size by omega] at this
end
end Go.AB
end

section
namespace Go.AB
open Go
section
variable {P : Program} {G G' : Gh} {n : Nat} {D : List Deferred} {σ σ' : St} {a : Act} {w w' : World} {T : List Nat}
def valOK (a : AV) : Prop := notLoc a = true ∧ ∀ t, ¬ holdsLp a t
theorem brCall_map {f : Nat} {s : Store} {C C' : AV → Store → Prop} (hc : ∀ a s', valOK a → C a s' → C' a s') : ∀ {o : Option (List AV)}, brCall P f s C o → brCall P f s C' o
 | some _, h => FN.mono (P := P) h fun rs s' ⟨h1, h2⟩ => ⟨h1, hc _ _ ⟨retV_notLoc h1, retV_noLp h1⟩ h2⟩
 | none, h => h
theorem brCallv_map {s : Store} {C C' : AV → Store → Prop} (hc : ∀ a s', valOK a → C a s' → C' a s') {o : Option (List AV)} {x : AV} (h : brCallv P o s C x) : brCallv P o s C' x := by
  unfold brCallv at h ⊢
  split at h
  · unfold brCallvA at h ⊢
    split at h
    · exact ⟨h.1, FN.mono (P := P) h.2 fun rs s' ⟨h1, h2⟩ => ⟨h1, hc _ _ ⟨retV_notLoc h1, retV_noLp h1⟩ h2⟩⟩
    · exact h
  · exact h
theorem valOK_arr (b o l c : Nat) : valOK (.arr b o l c) := ⟨rfl, fun _ h => h⟩
theorem valOK_ref (b o : Nat) : valOK (.ref b o) := ⟨rfl, fun _ h => h⟩
theorem valOK_mp (b : Nat) : valOK (.mp b) := ⟨rfl, fun _ h => h⟩
theorem valOK_tup (l : List AV) : valOK (.tup l) := ⟨rfl, fun _ h => h⟩
theorem bres_map {o : IOp} {C C' : AV → Store → Prop} (hc : ∀ a s', valOK a → C a s' → C' a s') (h : bres P o σ C) : bres P o σ C' := by
  cases o <;> first | (exact h.elim) | skip
  case call f args => exact brCall_map hc h
  case callv x args => exact brCallv_map hc h
  case makeMap => exact fun b hb => hc _ _ (valOK_mp b) (h b hb)
  case allocS z => exact fun b hb => hc _ _ (valOK_ref b 0) (h b hb)
  case boxS m x => exact ⟨h.1, h.2.1, fun b hb => hc _ _ (valOK_ref b 0) (h.2.2 b hb)⟩
  case makeSl sz by' z l c =>
    have h : brMake by' z σ.s C (xg true σ l) (xg true σ c) := h
    show brMake by' z σ.s C' (xg true σ l) (xg true σ c)
    unfold brMake at h ⊢
    split at h
    · exact ⟨h.1, h.2.1, h.2.2.1, fun b hb => hc _ _ (valOK_arr ..) (h.2.2.2 b hb)⟩
    · exact h
  case store m p v =>
    have h : brStore m σ.s C (σ.x v) (σ.x p) := h
    show brStore m σ.s C' (σ.x v) (σ.x p)
    unfold brStore at h ⊢
    split at h
    · refine ⟨h.1, h.2.1, h.2.2.1, ?_⟩
      have h4 := h.2.2.2
      unfold brSto at h4 ⊢
      split at h4
      · exact ⟨h4.1, hc _ _ (valOK_tup _) h4.2⟩
      · exact h4
    · exact h
  case loadD x =>
    have h : brTake σ.s C (σ.x x) := h
    show brTake σ.s C' (σ.x x)
    unfold brTake at h ⊢
    split at h
    · unfold brTakeO at h ⊢
      split at h
      · unfold takeC at h ⊢
        split at h
        · exact hc _ _ ⟨rfl, fun _ h => h⟩ h
        · exact hc _ _ ⟨rfl, fun _ h => h⟩ h
        · exact h
      · exact h
    · exact h
  case mapUpdate kk x k v =>
    have h : brUpd kk σ.s (xg true σ k) (xg true σ v) C (xg true σ x) := h
    show brUpd kk σ.s (xg true σ k) (xg true σ v) C' (xg true σ x)
    unfold brUpd at h ⊢
    split at h
    · unfold brUpdO at h ⊢
      split at h
      · exact ⟨h.1, hc _ _ (valOK_tup _) h.2⟩
      · exact h
    · exact h
theorem bres_congr {o : IOp} {C : AV → Store → Prop} (hx : ∀ x ∈ opIX o, σ.x x = σ'.x x) (hs : σ.s = σ'.s) (h : bres P o σ C) : bres P o σ' C := by
 have hg : ∀ x ∈ opIX o, xg true σ x = xg true σ' x := fun x h => by unfold xg; rw [hx x h]
 cases o <;> first | (exact h.elim) | skip
 case call f args =>
  show brCall P f σ'.s C (argsV (xg true σ') args)
  rw [← hs, ← argsV_congr args hg]; exact h
 case callv x args =>
  show brCallv P (argsV (xg true σ') args) σ'.s C (xg true σ' x)
  rw [← hs, ← argsV_congr args fun y hy => hg y (List.mem_cons_of_mem _ hy), ← hg x List.mem_cons_self]; exact h
 case makeMap => rw [bres, ← hs]; exact h
 case allocS z => rw [bres, ← hs]; exact h
 case boxS m x => rw [bres, ← hs, ← hg x List.mem_cons_self]; exact h
 case makeSl sz by' z l c => rw [bres, ← hs, ← hg l (by simp [opIX]), ← hg c (by simp [opIX])]; exact h
 case store m p v => rw [bres, ← hs, ← hx p (by simp [opIX]), ← hx v (by simp [opIX])]; exact h
 case loadD x => rw [bres, ← hs, ← hx x List.mem_cons_self]; exact h
 case mapUpdate kk x k v => rw [bres, ← hs, ← hg x (by simp [opIX]), ← hg k (by simp [opIX]), ← hg v (by simp [opIX])]; exact h
theorem view_noOwn {a : AV} (h : noOwn a = true) (hv : isV a = true) : view a = a := by
  cases a <;> first | rfl | skip
  · rename_i o z m cs
    cases o
    · rfl
    · cases h
  · cases hv
  · cases hv
  · cases h
theorem Eqv.put (h : Eqv σ σ') (d : Option Nat) (v : AV) : Eqv (σ.put d v) (σ'.put d v) := by
 cases d with
 | none => exact h
 | some d => exact ⟨fun i => by show look ((d, v) :: σ.e) i = look ((d, v) :: σ'.e) i; rw [look_cons, look_cons, h.e], h.lp, h.s⟩
theorem Eqv.withS (h : Eqv σ σ') (s : Store) : Eqv { σ with s := s } { σ' with s := s } := ⟨h.e, h.lp, rfl⟩
theorem drain_eqv {x : IX} (h : view (σ.x x) = σ.x x) : Eqv (σ.drain x) σ := by
  cases x with
  | c a => exact Eqv.refl _
  | t i =>
    refine ⟨fun j => ?_, fun _ => Iff.rfl, rfl⟩
    show look ((i, view (look σ.e i)) :: σ.e) j = _
    rw [look_cons]
    by_cases e : i = j
    · subst e; simp; exact h
    · simp [e]
theorem bbw_gwp {o : IOper} {K : St → Prop} (hK : ∀ τ τ', Eqv τ τ' → K τ → K τ') (h : bbw P o σ K) : gwp P o σ K := by
  obtain ⟨d, op, g⟩ := o
  cases g with
  | some _ => exact h.elim
  | none =>
  replace h := h.2
  cases op <;> first | (exact h.elim) | skip
  case call f args =>
    show callW P f σ d K (argsV (xg true σ) args)
    have h : brCall P f σ.s (bbK σ d K) (argsV (xg true σ) args) := h
    cases hh : argsV (xg true σ) args <;> rw [hh] at h <;> exact h
  case callv x args =>
    show callvW P σ (argsV (xg true σ) args) d K (xg true σ x)
    have h : brCallv P (argsV (xg true σ) args) σ.s (bbK σ d K) (xg true σ x) := h
    cases hh : argsV (xg true σ) args <;> cases hx : xg true σ x <;> rw [hh, hx] at h <;> exact h
  case makeMap => exact h
  case allocS z => exact h
  case boxS m x => exact h
  case makeSl sz by' z l c =>
    show makeSlW by' z σ d K (xg true σ l) (xg true σ c)
    have h : brMake by' z σ.s (bbK σ d K) (xg true σ l) (xg true σ c) := h
    cases hl : xg true σ l <;> cases hc : xg true σ c <;> rw [hl, hc] at h <;> exact h
  case store m p v =>
    show storeW m σ p v d K (σ.x v)
    have h : brStore m σ.s (bbK σ d K) (σ.x v) (σ.x p) := h
    unfold brStore at h
    split at h
    · rename_i b off hp
      obtain ⟨h1, h2, h3, h4⟩ := h
      refine ⟨h1, h3, ?_⟩
      have hd := drain_eqv (view_noOwn h2 h1)
      rw [hp]
      show stK d K (wrSO (σ.drain v) b off (stCells (σ.x v)) ((σ.drain v).s b))
      rw [hd.s]
      unfold brSto at h4
      split at h4
      · rename_i old ho
        rw [ho]
        show stK d K (wrS (σ.drain v) b (wrCells off (stCells (σ.x v)) old))
        unfold wrCells
        rw [decide_eq_true h4.1]
        refine hK _ _ ?_ h4.2
        have e : Eqv { σ with s := σ.s.set b (.cells (setAt old off (stCells (σ.x v)))) } { σ.drain v with s := (σ.drain v).s.set b (.cells (setAt old off (stCells (σ.x v)))) } := by
          rw [hd.s]; exact hd.symm.withS _
        exact e.put d _
      · exact h4.elim
    · exact h.elim
  case loadD x =>
    show loadDW σ d K (σ.x x)
    have h : brTake σ.s (bbK σ d K) (σ.x x) := h
    unfold brTake at h
    split at h
    · rename_i b off hx
      rw [hx]
      unfold loadDW
      simp only
      unfold brTakeO at h
      split at h
      · rename_i cs he
        first | exact h | (rw [he]; exact h)
      · exact h.elim
    · exact h.elim
  case mapUpdate kk x k v =>
    show mapUpdW kk σ (xg true σ k) (xg true σ v) d K (xg true σ x)
    have h : brUpd kk σ.s (xg true σ k) (xg true σ v) (bbK σ d K) (xg true σ x) := h
    unfold brUpd at h
    split at h
    · rename_i b hx
      rw [hx]
      show updO kk b σ (xg true σ k) (xg true σ v) d K (σ.s b)
      unfold brUpdO at h
      split at h
      · rename_i es he
        rw [he]; exact h
      · exact h.elim
    · exact h.elim
theorem pv_s {o : IOper} {g : Bool} (h : sfree o σ = true) (s : Store) : pv o.op (xg g { σ with s := s }) { σ with s := s } = pv o.op (xg g σ) σ := by
  have hf : xg g { σ with s := s } = xg g σ := by funext x; cases x <;> rfl
  rw [hf]
  obtain ⟨d, op, gg⟩ := o
  cases op <;> first | rfl | skip
  case mov tr x => cases tr <;> rfl
  case slice sz x lo hi mx => cases mx <;> rfl
  case load m multi x =>
    have h : noRef (σ.x x) = true := h
    have hn : noRef (xg g σ x) = true := by
      unfold xg unw
      split
      · rename_i b a hb
        rw [hb] at h
        cases hc : ((b == g) || b) && inner a
        · rfl
        · exact h
      · exact h
    show loadV multi (rd { σ with s := s } (xg g σ x) m) = loadV multi (rd σ (xg g σ x) m)
    cases he : xg g σ x <;> first | rfl | (rw [he] at hn; cases hn)
  case loadR z m x => cases h
  case loadI k x => cases h
  case len c x =>
    have h : (!Nat.beq c 2) = true := h
    show lenV s c (xg g σ x) = lenV σ.s c (xg g σ x)
    match c, h with
    | 0, _ => cases xg g σ x <;> rfl
    | 1, _ => cases xg g σ x <;> rfl
    | c + 3, _ => cases xg g σ x <;> rfl
  case eqS ne x y =>
    cases y with
    | t i => rfl
    | c a =>
      cases a <;> first | rfl | skip
      rename_i o z m cs
      cases o <;> cases m <;> cases cs <;> rfl
theorem qv_s {o : IOper} (h : sfree o σ = true) (s : Store) : qv o { σ with s := s } = qv o σ := by
  unfold qv
  split
  · exact pv_s h s
  · rename_i t want _
    show qvG o.op want { σ with s := s } (look σ.e t) = qvG o.op want σ (look σ.e t)
    unfold qvG
    split
    · show wPQ _ _ _ = wPQ _ _ _
      rw [pv_s h s]
    · show wPQ _ _ _ = wPQ _ _ _
      rw [pv_s h s]
    · rfl
theorem qe_s {o : IOper} (h : sfree o σ = true) (s : Store) (f : IX → AV) : qe f s o.op = qe f σ.s o.op := by
 obtain ⟨d, op, gg⟩ := o
 cases op <;> first | rfl | (cases h; done)
theorem qeO_s {o : IOper} (h : sfree o σ = true) (s : Store) : qeO o { σ with s := s } = qeO o σ := by
  have hf : ∀ g, xg g { σ with s := s } = xg g σ := fun g => by funext x; cases x <;> rfl
  unfold qeO
  split
  · rw [hf]; exact qe_s h s _
  · rename_i t want _
    show qeG o.op want { σ with s := s } (look σ.e t) = qeG o.op want σ (look σ.e t)
    unfold qeG
    split
    · show wPR _ (qe (xg _ { σ with s := s }) s o.op) = wPR _ _
      rw [hf, qe_s h s]
    · show wPR _ (qe (xg _ { σ with s := s }) s o.op) = wPR _ _
      rw [hf, qe_s h s]
    · rfl
theorem slotFree_s (d : Option Nat) (s : Store) : slotFree { σ with s := s } d = slotFree σ d := by cases d <;> rfl
theorem Y2.withS {o : IOper} {v : AV} (hy : Y2 P σ o v) (h : sfree o σ = true) (s : Store) : Y2 P { σ with s := s } o v := by
 cases hy with
 | old _ _ h0 hf hv hy =>
  refine .old o v h0 (by rw [slotFree_s]; exact hf) hv ?_
  cases hy with
  | pure _ _ hq => exact .pure o v (by rw [qv_s h s]; exact hq)
  | mov d x hi => exact .mov (σ := { σ with s := s }) d x hi
  | call => cases h
  | callG => cases h
  | callv => cases h
  | callvG => cases h
  | eff _ _ hq => exact .eff o v (by rw [qeO_s h s]; exact hq)
 | sto m c x old h0 h1 h2 h3 => exact .sto (σ := { σ with s := s }) m c x old h0 h1 h2 h3
 | alo d z h0 h1 => exact .alo d z h0 h1
 | app d sz bytes x y _ h0 h1 => exact .app d sz bytes x y v h0 h1
 | lod d off i x cs o s' m ds h0 h1 h2 h3 h4 => exact .lod d off i x cs o s' m ds h0 h1 h2 h3 h4
def behind (σ : St) (d : Option Nat) (a : AV) (s : Store) : St := { σ with s := s }.put d a
theorem look_put (σ : St) (d : Option Nat) (a : AV) (i : Nat) : look (σ.put d a).e i = if d = some i then a else look σ.e i := by
  cases d with
  | none => simp [St.put]
  | some d =>
    show look ((d, a) :: σ.e) i = _
    rw [look_cons]
    by_cases e : d = i
    · subst e; simp
    · simp [e]
theorem put_s (σ : St) (d : Option Nat) (a : AV) : (σ.put d a).s = σ.s ∧ (σ.put d a).lp = σ.lp := by cases d <;> exact ⟨rfl, rfl⟩
theorem behind_s (σ : St) (d : Option Nat) (a : AV) (s : Store) : (behind σ d a s).s = s := (put_s _ d a).1
theorem notIn_ne {d : Option Nat} {l : List Nat} (h : notIn d l = true) {i : Nat} (hi : i ∈ l) : d ≠ some i := fun e => by
 subst e
 simp [notIn] at h
 exact h hi
theorem apB_spec {y x : IOper} (h : apB y x = true) : noDr2 y x = true ∧ notIn (tgt y) (slots x) = true ∧ notIn x.dst (slots y) = true ∧ ∀ i, tgt y = some i → x.dst ≠ some i := by
 unfold apB at h
 simp only [Bool.and_eq_true] at h
 refine ⟨h.1.1.1, h.1.1.2, h.1.2, fun i hi hd => ?_⟩
 have := h.2
 rw [hi, hd] at this
 simp at this
theorem agr_put {y : IOper} {d : Option Nat} {v : AV} (hd : notIn d (slots y) = true) (hf : slotFree σ d = true) (hv : notLoc v = true) : Agr y σ (σ.put d v) := by
  have key : ∀ i, i ∈ slots y → look σ.e i = look (σ.put d v).e i := fun i hi => by rw [look_put, if_neg (notIn_ne hd hi)]
  refine ⟨fun x hx => ?_, fun t want hg => key t (List.mem_append_left _ (by rw [hg]; exact List.mem_cons_self)), (put_s σ d v).1.symm, fun x _ g m => ?_⟩
  · cases x with
    | c a => rfl
    | t i => exact key i (List.mem_append_right _ (mem_ixSlots hx))
  · cases he : xg g σ x <;> try rfl
    · rename_i b off
      show rdSO m off (σ.s b) = rdSO m off ((σ.put d v).s b)
      rw [(put_s σ d v).1]
    · rename_i c off
      show rdLoc m off (look σ.e c) = rdLoc m off (look (σ.put d v).e c)
      rw [look_put]
      by_cases e : d = some c
      · rw [if_pos e, rdLoc_no hv]
        rw [e] at hf
        exact rdLoc_no hf m off
      · rw [if_neg e]
theorem sfree_put {y : IOper} {d : Option Nat} {v : AV} {s : Store} (hd : notIn d (slots y) = true) : sfree y (behind σ d v s) = sfree y σ := by
 obtain ⟨dd, op, g⟩ := y
 cases op <;> first | rfl | skip
 rename_i m mu x
 show noRef ((behind σ d v s).x x) = noRef (σ.x x)
 cases x with
 | c a => rfl
 | t i =>
  show noRef (look (behind σ d v s).e i) = noRef (look σ.e i)
  unfold behind
  rw [look_put, if_neg (notIn_ne hd (List.mem_append_right _ (mem_ixSlots (List.mem_cons_self))))]
theorem Y2.behind {y : IOper} {v av : AV} {d : Option Nat} {s : Store} (hy : Y2 P σ y v) (h : sfree y σ = true) (hd : notIn d (slots y) = true) (hf : slotFree σ d = true) (hv : valOK av) (hne : ∀ i, tgt y = some i → d ≠ some i) : Y2 P (behind σ d av s) y v := by
  have h1 : Y2 P { σ with s := s } y v := hy.withS h s
  unfold AB.behind
  refine h1.agr (agr_put hd (by rw [slotFree_s]; exact hf) hv.1) (fun i hi => ?_) (fun i hi hf => ?_)
  · rw [look_put, if_neg (hne i (dst_tgt hi))]
  · rw [(put_s _ d av).2]; exact hf
theorem behind_step2 {y : IOper} {v av : AV} {d : Option Nat} {s : Store} (hd : notIn d (slots y) = true) (hne : ∀ i, tgt y = some i → d ≠ some i) : Eqv (step2 (behind σ d av s) y v) (AB.behind (step2 σ y v) d av s) := by
  refine ⟨fun i => ?_, fun x => ?_, ?_⟩
  · rw [look_step2]
    unfold AB.behind
    rw [look_put, look_put]
    show _ = if d = some i then av else look (step2 σ y v).e i
    rw [look_step2]
    by_cases h1 : tgt y = some i
    · rw [if_pos h1, if_neg (hne i h1), if_pos h1]
    · rw [if_neg h1, if_neg h1]
      by_cases h2 : d = some i
      · rw [if_pos h2, if_pos h2]
        refine dz_no fun hh => ?_
        exact notIn_ne hd (drained2_slots hh) h2
      · rw [if_neg h2, if_neg h2]
  · rw [step2_lp]
    unfold AB.behind
    rw [(put_s _ d av).2, (put_s _ d av).2]
    show _ ↔ x ∈ (step2 σ y v).lp
    rw [step2_lp]
  · rw [step2_s, behind_s, behind_s]
def bE (P : Program) (T : List Nat) : List Item → (St → Prop) → St → Prop
 | [], K, σ => ∃ τ, Eqv τ σ ∧ K τ
 | (k, _, o) :: r, K, σ => if 3 ≤ k then ∃ τ, Eqv τ σ ∧ gwp P o τ (fun ρ => noLpB T ρ.e = true ∧ bwp P T r ρ K) else if 2 ≤ k then slotFree σ o.dst = true ∧ o.g = none ∧ bres P o.op σ (fun a s => bE P T r K (behind σ o.dst a s))
  else ∃ v, Y2 P σ o v ∧ lpSafe T o v ∧ (k = 1 → sfree o σ = true) ∧ bE P T r K (step2 σ o v)
theorem bwp_bE {K : St → Prop} : ∀ (l : List Item) (σ : St), bwp P T l σ K → bE P T l K σ
  | [], σ, h => ⟨σ, Eqv.refl _, h⟩
  | (0, _, o) :: r, σ, h => by
    obtain ⟨v, h1, h2, h3⟩ := q2_inv (show q2 P o σ (fun τ => noLpB T τ.e = true ∧ bwp P T r τ K) from h)
    unfold bE
    rw [if_neg (by decide), if_neg (by decide)]
    exact ⟨v, h1, lpSafe_of fun i c hc => noLpB_no h2 i c hc, fun e => (by cases e), bwp_bE r _ h3⟩
  | (1, _, o) :: r, σ, h => by
    obtain ⟨h0, h⟩ := h
    obtain ⟨v, h1, h2, h3⟩ := q2_inv (show q2 P o σ (fun τ => noLpB T τ.e = true ∧ bwp P T r τ K) from h)
    unfold bE
    rw [if_neg (by decide), if_neg (by decide)]
    exact ⟨v, h1, lpSafe_of fun i c hc => noLpB_no h2 i c hc, fun _ => h0, bwp_bE r _ h3⟩
  | (k + 3, _, o) :: r, σ, h => by
    have h : gwp P o σ (fun τ => noLpB T τ.e = true ∧ bwp P T r τ K) := h
    unfold bE
    rw [if_pos (by omega)]
    exact ⟨σ, Eqv.refl _, h⟩
  | (2, _, o) :: r, σ, h => by
    have h : bbw P o σ (fun τ => noLpB T τ.e = true ∧ bwp P T r τ K) := h
    unfold bE
    rw [if_neg (by decide), if_pos (by decide)]
    unfold bbw at h
    split at h
    · rename_i hg
      exact ⟨h.1, hg, bres_map (fun a s _ hk => bwp_bE r _ hk.2) h.2⟩
    · exact h.elim
theorem sfree_eqv {o : IOper} (h : Eqv σ σ') : sfree o σ = sfree o σ' := by
 obtain ⟨d, op, g⟩ := o
 cases op <;> first | rfl | skip
 rename_i m mu x
 show noRef (σ.x x) = noRef (σ'.x x)
 cases x with
 | c a => rfl
 | t i => show noRef (look σ.e i) = noRef (look σ'.e i); rw [h.e]
theorem bE_eqv {K : St → Prop} : ∀ (l : List Item) {σ σ' : St}, Eqv σ σ' → bE P T l K σ → bE P T l K σ'
  | [], _, _, h, ⟨τ, h1, h2⟩ => ⟨τ, h1.trans h, h2⟩
  | (k, i, o) :: r, σ, σ', h, hb => by
    unfold bE at hb ⊢
    by_cases hk3 : 3 ≤ k
    · rw [if_pos hk3] at hb ⊢
      obtain ⟨τ, h1, h2⟩ := hb
      exact ⟨τ, h1.trans h, h2⟩
    rw [if_neg hk3] at hb ⊢
    by_cases hk : 2 ≤ k
    · rw [if_pos hk] at hb ⊢
      refine ⟨by rw [← h.free]; exact hb.1, hb.2.1, ?_⟩
      refine bres_congr (σ := σ) (fun x _ => by cases x with | c a => rfl | t i => exact h.e i) h.s (bres_map (fun a s _ hh => ?_) hb.2.2)
      exact bE_eqv r ((h.withS s).put o.dst a) hh
    · rw [if_neg hk] at hb ⊢
      obtain ⟨v, h1, h2, h3, h4⟩ := hb
      exact ⟨v, h1.eqv h, h2, fun e => by rw [← sfree_eqv h]; exact h3 e, bE_eqv r (h.step2 o v) h4⟩
theorem sfree_step2 {o y : IOper} {v : AV} (hn : notIn (tgt y) (slots o) = true) (hdr : noDr2 y o = true) : sfree o (step2 σ y v) = sfree o σ := by
 obtain ⟨d, op, g⟩ := o
 cases op <;> first | rfl | skip
 rename_i m mu x
 show noRef ((step2 σ y v).x x) = noRef (σ.x x)
 cases x with
 | c a => rfl
 | t i =>
  have hi : i ∈ slots ⟨d, .load m mu (.t i), g⟩ := List.mem_append_right _ (mem_ixSlots List.mem_cons_self)
  show noRef (look (step2 σ y v).e i) = noRef (look σ.e i)
  rw [look_step2, if_neg (notIn_ne hn hi), dz_no]
  have := List.all_eq_true.1 hdr i hi
  simpa using this
theorem pullF {K : St → Prop} {kx ix : Nat} {x : IOper} (hkx : ¬ 2 ≤ kx) (hTx : inT T x) : ∀ (pre : List Item) (post : List Item) (σ : St), NoLp T σ → (∀ y ∈ pre, ¬ 2 ≤ y.1 ∧ ap2 y.2.2 x = true ∧ inT T y.2.2) → bE P T (pre ++ (kx, ix, x) :: post) K σ →
    ∃ v, Y2 P σ x v ∧ lpSafe T x v ∧ (kx = 1 → sfree x σ = true) ∧ bE P T (pre ++ post) K (step2 σ x v)
  | [], post, σ, _, _, h => by
    have h : bE P T ((kx, ix, x) :: post) K σ := h
    unfold bE at h
    rw [if_neg (by omega), if_neg hkx] at h
    exact h
  | (k, i, o) :: pre, post, σ, hN, hap, h => by
    have h : bE P T ((k, i, o) :: (pre ++ (kx, ix, x) :: post)) K σ := h
    obtain ⟨hk, hap0, hT0⟩ := hap _ List.mem_cons_self
    unfold bE at h
    rw [if_neg (by omega), if_neg hk] at h
    obtain ⟨v, h1, h2, h3, h4⟩ := h
    obtain ⟨u, i1, i2, i3, i4⟩ := pullF hkx hTx pre post (step2 σ o v) (step2_noLp hN h2) (fun y hy => hap y (List.mem_cons_of_mem _ hy)) h4
    obtain ⟨a1, a2, a3, a4, a5, a6, a7, c1, c2⟩ := ap2_spec hap0
    have hx : Y2 P σ x u := i1.agr (agr_step2 h1 a1 a4 c2 hN hT0).symm
      (fun i hi => (notLoc_step2 fun e => a3 i i e (dst_tgt hi) rfl).symm)
      (fun i hi hf => lpFree_mono (fun z hz _ => (step2_lp o v z).2 (.inl hz)) hf)
    have ho : Y2 P (step2 σ x u) o v := h1.agr (agr_step2 hx a2 a5 c1 hN hTx)
      (fun i hi => notLoc_step2 fun e => a3 i i (dst_tgt hi) e rfl)
      (fun i hi hf => lpFree_mono (fun z hz hzi => by
        rcases (step2_lp _ _ z).1 hz with hz | ⟨j, j1, _, j3⟩
        · exact hz
        · rw [hzi] at j3; exact (i2 j j1 i (hT0 i hi) j3).elim) hf)
    have hcomm : Eqv (step2 (step2 σ o v) x u) (step2 (step2 σ x u) o v) := step2_comm a3 a6 a7
    refine ⟨u, hx, i2, fun e => by rw [← sfree_step2 a1 a4]; exact i3 e, ?_⟩
    show bE P T ((k, i, o) :: (pre ++ post)) K (step2 σ x u)
    unfold bE
    rw [if_neg (by omega), if_neg hk]
    exact ⟨v, ho, h2, fun e => by rw [sfree_step2 a2 a5]; exact h3 e, bE_eqv _ hcomm i4⟩
theorem pushB {K : St → Prop} {kx ix : Nat} {x : IOper} (hkx : 2 ≤ kx) (hkx3 : ¬ 3 ≤ kx) : ∀ (pre : List Item) (post : List Item) (σ : St), (∀ y ∈ pre, y.1 = 1 ∧ apB y.2.2 x = true) → bE P T (pre ++ (kx, ix, x) :: post) K σ →
    slotFree σ x.dst = true ∧ x.g = none ∧ bres P x.op σ (fun a s => bE P T (pre ++ post) K (behind σ x.dst a s))
  | [], post, σ, _, h => by
    have h : bE P T ((kx, ix, x) :: post) K σ := h
    unfold bE at h
    rw [if_neg hkx3, if_pos hkx] at h
    exact h
  | (k, i, o) :: pre, post, σ, hap, h => by
    have h : bE P T ((k, i, o) :: (pre ++ (kx, ix, x) :: post)) K σ := h
    obtain ⟨rfl, hap0⟩ := hap _ List.mem_cons_self
    unfold bE at h
    rw [if_neg (by omega), if_neg (by omega)] at h
    obtain ⟨v, h1, h2, h3, h4⟩ := h
    obtain ⟨i1, i2, i3⟩ := pushB hkx hkx3 pre post (step2 σ o v) (fun y hy => hap y (List.mem_cons_of_mem _ hy)) h4
    obtain ⟨a1, a2, a3, a4⟩ := apB_spec hap0
    have hf : slotFree σ x.dst = true := by
      cases hd : x.dst with
      | none => rfl
      | some d =>
        rw [hd] at i1
        have e : notLoc (look (step2 σ o v).e d) = notLoc (look σ.e d) := notLoc_step2 fun e => a4 d e hd
        show notLoc (look σ.e d) = true
        rw [← e]; exact i1
    refine ⟨hf, i2, bres_congr (σ := step2 σ o v) (fun y hy => ?_) (step2_s o v) (bres_map (fun av s hv hb => ?_) i3)⟩
    · cases y with
      | c a => rfl
      | t j =>
        have hj : j ∈ slots x := List.mem_append_right _ (mem_ixSlots hy)
        show look (step2 σ o v).e j = look σ.e j
        rw [look_step2, if_neg (notIn_ne a2 hj), dz_no]
        have := List.all_eq_true.1 a1 j hj
        simpa using this
    · show bE P T ((1, i, o) :: (pre ++ post)) K (behind σ x.dst av s)
      unfold bE
      rw [if_neg (by omega), if_neg (by omega)]
      refine ⟨v, h1.behind (h3 rfl) a3 hf hv a4, h2, fun _ => by rw [sfree_put a3]; exact h3 rfl, ?_⟩
      exact bE_eqv _ (behind_step2 a3 a4).symm hb
end
section
variable {P : Program} {n : Nat} {D : List Deferred} {ops : Array Oper} {T : List Nat}
def Bef (ops : Array Oper) (j i : Nat) : Prop := ∀ L : Nat → Prop, (∀ m, L m → ∀ d, bindsOn ops m d = true → L d) → (∀ d, bindsOn ops j d = true → L d) → L i
theorem foldl_bit (acc : List Nat) (i : Nat) : ∀ (l : List Edge) (s : Nat), (l.foldl (fun s e => bif Region.binds .any e then s ||| (1 <<< e.on) ||| acc.getD e.on 0 else s) s).testBit i = true →
    s.testBit i = true ∨ ∃ e ∈ l, Region.binds .any e = true ∧ (i = e.on ∨ (acc.getD e.on 0).testBit i = true)
  | [], s, h => .inl h
  | e :: l, s, h => by
    rw [List.foldl_cons] at h
    rcases foldl_bit acc i l _ h with h | ⟨e', h1, h2⟩
    · cases hb : Region.binds .any e with
      | false => rw [hb] at h; exact .inl h
      | true =>
        rw [hb, cond_true, Nat.testBit_or, Nat.testBit_or, Bool.or_eq_true, Bool.or_eq_true] at h
        rcases h with (h | h) | h
        · exact .inl h
        · refine .inr ⟨e, List.mem_cons_self, hb, .inl ?_⟩
          rw [Nat.testBit_shiftLeft, Bool.and_eq_true, decide_eq_true_eq] at h
          have := Nat.testBit_one_eq_true_iff_self_eq_zero.1 h.2
          omega
        · exact .inr ⟨e, List.mem_cons_self, hb, .inr h⟩
    · exact .inr ⟨e', List.mem_cons_of_mem _ h1, h2⟩
theorem masks_bef : ∀ (l : List Oper) (acc : List Nat), l = ops.toList.drop acc.length → (∀ j i, (acc.getD j 0).testBit i = true → Bef ops j i) → ∀ j i, ((masks l acc).getD j 0).testBit i = true → Bef ops j i
  | [], acc, _, h => h
  | o :: l, acc, hl, h => by
    have ho : ops[acc.length]? = some o := by
      have : (ops.toList.drop acc.length)[0]? = some o := by rw [← hl]; rfl
      simpa using this
    refine masks_bef l (acc ++ [maskOf acc o]) ?_ fun j i hb => ?_
    · have : (ops.toList.drop acc.length).tail = l := by rw [← hl]; rfl
      rw [← this]; simp
    · by_cases hj : j < acc.length
      · refine h j i ?_
        simpa [List.getD_eq_getElem?_getD, List.getElem?_append_left hj] using hb
      · by_cases he : j = acc.length
        · subst he
          have hb : (maskOf acc o).testBit i = true := by simpa [List.getD_eq_getElem?_getD] using hb
          unfold maskOf at hb
          rcases foldl_bit acc i _ _ hb with h0 | ⟨e, e1, e2, e3⟩
          · simp at h0
          · intro L hc hd
            have hle : L e.on := hd _ ((bindsOn_iff ho).2 ⟨e, by simpa using e1, e2, rfl⟩)
            rcases e3 with rfl | e3
            · exact hle
            · exact h e.on i e3 L hc (hc _ hle)
        · have : (acc ++ [maskOf acc o]).getD j 0 = 0 := by
            rw [List.getD_eq_getElem?_getD, List.getElem?_eq_none (by simp; omega)]; rfl
          rw [this] at hb
          simp at hb
theorem pairsB_pw {ms : List Nat} : ∀ {l : List Item}, pairsB ops ms l = true → l.Pairwise fun x y => pairB ops ms x y = true
 | [], _ => .nil
 | x :: r, h => by
  simp only [pairsB, Bool.and_eq_true] at h
  exact .cons (fun y hy => List.all_eq_true.1 h.1 y hy) (pairsB_pw h.2)
structure GoodB (ops : Array Oper) (L0 L : List Item) (listed : Array Bool) : Prop where
 size : listed.size = ops.size
 sub : L.Sublist L0
 un : ∀ x ∈ L, listed.getD x.2.1 true = false
 li : ∀ k, k < ops.size → (∀ x ∈ L, x.2.1 ≠ k) → listed.getD k false = true
 cl : ∀ m, listed.getD m false = true → ∀ i, bindsOn ops m i = true → listed.getD i false = true
theorem getD_set {l : Array Bool} {i j : Nat} {b : Bool} (h : j ≠ i) : (l.setIfInBounds i true).getD j b = l.getD j b := by
 simp [Array.getElem?_setIfInBounds, h.symm]
theorem getD_set_self {l : Array Bool} {i : Nat} {b : Bool} (h : i < l.size) : (l.setIfInBounds i true).getD i b = true := by
 simp [h]
theorem getD_set_mono {l : Array Bool} {i j : Nat} (h : l.getD j false = true) : (l.setIfInBounds i true).getD j false = true := by
  by_cases e : j = i
  · subst e
    rcases Nat.lt_or_ge j l.size with hj | hj
    · exact getD_set_self hj
    · simp [Array.getElem?_eq_none hj] at h
  · rw [getD_set e]; exact h
theorem itemB_T {x : Item} (h : itemB P T n ops x = true) (hk : ¬ 2 ≤ x.1) : inT T x.2.2 := fun c hc => by
  simp only [itemB, Bool.and_eq_true] at h
  have h2 := h.2
  unfold isLw at hc
  split at hc
  · rename_i hx
    rw [hx] at h2
    injection hc with hc; subst hc
    rcases Bool.or_eq_true_iff.1 h2 with h2 | h2
    · exact (hk (of_decide_eq_true h2)).elim
    · simpa using h2
  · rename_i hx
    rw [hx] at h2
    injection hc with hc; subst hc; simpa using h2
  · cases hc
theorem NoLp.behind {σ : St} (h : NoLp T σ) {d : Option Nat} {a : AV} {s : Store} (ha : valOK a) : NoLp T (behind σ d a s) := fun i c hc => by
  unfold AB.behind
  rw [look_put]
  by_cases e : d = some i
  · rw [if_pos e]; exact ha.2 c
  · rw [if_neg e]; exact h i c hc
theorem run_b {K : St → Prop} {Q : Exit → Act → World → Prop} (G₀ : Gh) (w₀ : World) {L0 : List Item} (hI : ∀ x ∈ L0, itemB P T n ops x = true) (hP : L0.Pairwise fun x y => pairB ops (masks ops.toList []) x y = true)
    (hn : ∀ G' σ' a' w', Inv G' n D σ' a' w' → Pres G₀ w₀ G' w' → K σ' → Q .normal a' w') :
    ∀ (m : Nat) (L : List Item), L.length = m → ∀ (listed : Array Bool) (σ : St), GoodB ops L0 L listed → NoLp T σ → bE P T L K σ → ∀ (G : Gh) (a : Act) (w : World), Inv G n D σ a w → Pres G₀ w₀ G w → wpAny P .any ops Q m listed a w := by
  intro m
  induction m with
  | zero =>
    intro L hL listed σ hg _ hb G a w h hp
    obtain rfl := List.eq_nil_of_length_eq_zero hL
    refine ⟨List.eq_nil_iff_forall_not_mem.2 fun j hj => ?_, ?_⟩
    · obtain ⟨r1, r2, r3⟩ := mem_ready' hj
      have := getD_ft (hg.li j r1 fun x hx => by cases hx)
      rw [r2] at this; cases this
    · obtain ⟨τ, t1, t2⟩ := hb
      exact hn G τ a w (h.eqv t1.symm) hp t2
  | succ m ih =>
    intro L hL listed σ hg hN hb G a w h hp
    have hPL := hP.sublist hg.sub
    refine ⟨fun h0 => ?_, fun i hi => ?_⟩
    · cases L with
      | nil => simp at hL
      | cons x r =>
        have hx := hI x (hg.sub.subset List.mem_cons_self)
        simp only [itemB, Bool.and_eq_true] at hx
        have hmem : x.2.1 ∈ Region.ready .any ops listed := by
          cases ho : ops[x.2.1]? with
          | none => rw [ho] at hx; simp at hx
          | some o =>
            rw [ho] at hx
            have hx1 : (chkOper P n ops o x.2.2 && o.after.all fun e => !Region.binds .any e || (decide (e.on < ops.size) && e.on != x.2.1)) = true := hx.1
            rw [Bool.and_eq_true] at hx1
            refine mem_ready.2 ⟨hg.un x List.mem_cons_self, o, ho, fun e he hbn => ?_⟩
            have h3 := Array.all_eq_true_iff_forall_mem.1 hx1.2 e he
            rw [hbn] at h3
            simp only [Bool.not_true, Bool.false_or, Bool.and_eq_true, decide_eq_true_eq, bne_iff_ne] at h3
            refine hg.li e.on h3.1 fun y hy => ?_
            rcases List.mem_cons.1 hy with rfl | hy
            · exact fun e' => h3.2 e'.symm
            · intro e'
              have := (List.pairwise_cons.1 hPL).1 y hy
              simp only [pairB, Bool.and_eq_true, Bool.not_eq_true'] at this
              have hb2 : bindsOn ops x.2.1 y.2.1 = true := (bindsOn_iff ho).2 ⟨e, he, hbn, e'.symm⟩
              rw [this.1] at hb2; cases hb2
        rw [h0] at hmem
        cases hmem
    · obtain ⟨r1, r2, r3⟩ := mem_ready' hi
      have hex : ∃ x ∈ L, x.2.1 = i := by
        apply Classical.byContradiction
        intro hno
        have := getD_ft (hg.li i r1 fun x hx e => hno ⟨x, hx, e⟩)
        rw [r2] at this; cases this
      obtain ⟨⟨kx, ix, x⟩, hx, e0⟩ := hex
      have e0 : ix = i := e0
      subst e0
      obtain ⟨pre, post, rfl⟩ := List.append_of_mem hx
      have hxi := hI _ (hg.sub.subset hx)
      have hPw := List.pairwise_append.1 hPL
      have hpx : ∀ y ∈ pre, pairB ops (masks ops.toList []) y (kx, ix, x) = true := fun y hy => hPw.2.2 y hy _ List.mem_cons_self
      have hxp : ∀ y ∈ post, pairB ops (masks ops.toList []) (kx, ix, x) y = true := (List.pairwise_cons.1 hPw.2.1).1
      have hkind : ∀ y ∈ pre, kindB y.1 kx y.2.2 x = true := fun y hy => by
        have h1 := hpx y hy
        simp only [pairB, Bool.and_eq_true, Bool.or_eq_true] at h1
        rcases h1.2.2 with h2 | h2
        · have hbf := masks_bef (ops := ops) ops.toList [] (by simp) (fun j i hh => by simp at hh) _ _ h2
          have := getD_ft (hbf (fun m => listed.getD m false = true) hg.cl r3)
          rw [hg.un y (List.mem_append_left _ hy)] at this; cases this
        · exact h2
      have hne : ∀ y ∈ pre ++ post, y.2.1 ≠ ix := fun y hy => by
        rcases List.mem_append.1 hy with hy | hy
        · have := hpx y hy
          simp only [pairB, Bool.and_eq_true, bne_iff_ne] at this
          exact this.2.1
        · have := hxp y hy
          simp only [pairB, Bool.and_eq_true, bne_iff_ne] at this
          exact fun e => this.2.1 e.symm
      have hg' : GoodB ops L0 (pre ++ post) (listed.setIfInBounds ix true) := by
        refine ⟨by simp [hg.size], ((List.sublist_cons_self _ post).append_left pre).trans hg.sub, fun y hy => ?_, fun k hk hno => ?_, fun m' hm' d hd => ?_⟩
        · rw [getD_set (hne y hy)]
          refine hg.un y ?_
          rcases List.mem_append.1 hy with hy | hy
          · exact List.mem_append_left _ hy
          · exact List.mem_append_right _ (List.mem_cons_of_mem _ hy)
        · by_cases e : k = ix
          · subst e; exact getD_set_self (by rw [hg.size]; exact hk)
          · refine getD_set_mono (hg.li k hk fun y hy => ?_)
            rcases List.mem_append.1 hy with hy | hy
            · exact hno y (List.mem_append_left _ hy)
            · rcases List.mem_cons.1 hy with rfl | hy
              · exact fun e' => e e'.symm
              · exact hno y (List.mem_append_right _ hy)
        · refine getD_set_mono ?_
          by_cases e : m' = ix
          · subst e; exact r3 d hd
          · rw [getD_set e] at hm'; exact hg.cl m' hm' d hd
      have hlen : (pre ++ post).length = m := by simp at hL ⊢; omega
      have hxo : chkOper P n ops ops[ix] x = true := by
        simp only [itemB, Bool.and_eq_true] at hxi
        have h1 := hxi.1
        rw [Array.getElem?_eq_getElem r1] at h1
        have h1 : (chkOper P n ops ops[ix] x && _) = true := h1
        rw [Bool.and_eq_true] at h1
        exact h1.1
      by_cases hk3 : 3 ≤ kx
      · obtain rfl : pre = [] := by
          cases pre with
          | nil => rfl
          | cons y pre =>
            have h1 := hkind y List.mem_cons_self
            obtain ⟨ky, iy, yo⟩ := y
            obtain ⟨k, rfl⟩ : ∃ k, kx = k + 3 := ⟨kx - 3, by omega⟩
            match ky with
            | 0 => cases h1
            | 1 => cases h1
            | _ + 2 => cases h1
        have hb : bE P T ((kx, ix, x) :: post) K σ := hb
        unfold bE at hb
        rw [if_pos hk3] at hb
        obtain ⟨τ, t1, t2⟩ := hb
        refine wpOp_one (o := ops[ix]) (by simp [r1]) (gwp_sound (h.eqv t1.symm) hxo t2 fun G' σ' a' w' k1 k2 k3 => ?_)
        exact ih ([] ++ post) hlen _ σ' hg' (fun i c hc => noLpB_no k3.1 i c hc) (bwp_bE _ _ k3.2) G' a' w' k1 (hp.trans k2)
      by_cases hk : 2 ≤ kx
      · have hap : ∀ y ∈ pre, y.1 = 1 ∧ apB y.2.2 x = true := fun y hy => by
          have h1 := hkind y hy
          obtain ⟨ky, iy, yo⟩ := y
          obtain rfl : kx = 2 := by omega
          match ky with
          | 0 => cases h1
          | 1 => exact ⟨rfl, h1⟩
          | _ + 2 => cases h1
        obtain ⟨p1, p2, p3⟩ := pushB hk hk3 pre post σ hap hb
        have hbb : bbw P x σ (fun τ => NoLp T τ ∧ bE P T (pre ++ post) K τ) := by
          unfold bbw
          rw [p2]
          exact ⟨p1, bres_map (fun av s hv hh => ⟨hN.behind hv, hh⟩) p3⟩
        have hK' : ∀ τ τ', Eqv τ τ' → (NoLp T τ ∧ bE P T (pre ++ post) K τ) → NoLp T τ' ∧ bE P T (pre ++ post) K τ' := fun τ τ' e hh =>
          ⟨fun i c hc => by rw [← e.e i]; exact hh.1 i c hc, bE_eqv _ e hh.2⟩
        refine wpOp_one (o := ops[ix]) (by simp [r1]) (gwp_sound h hxo (bbw_gwp hK' hbb) fun G' σ' a' w' k1 k2 k3 => ?_)
        exact ih (pre ++ post) hlen _ σ' hg' k3.1 k3.2 G' a' w' k1 (hp.trans k2)
      · have hap : ∀ y ∈ pre, ¬ 2 ≤ y.1 ∧ ap2 y.2.2 x = true ∧ inT T y.2.2 := fun y hy => by
          have h1 := hkind y hy
          have hyT := fun hh => itemB_T (hI y (hg.sub.subset (List.mem_append_left _ hy))) hh
          obtain ⟨ky, iy, yo⟩ := y
          match ky, kx, hk with
          | 0, 0, _ => exact ⟨fun hh => absurd hh (by simp), h1, hyT (by simp)⟩
          | 0, 1, _ => exact ⟨fun hh => absurd hh (by simp), h1, hyT (by simp)⟩
          | 1, 0, _ => exact ⟨fun hh => absurd hh (by simp), h1, hyT (by simp)⟩
          | 1, 1, _ => exact ⟨fun hh => absurd hh (by simp), h1, hyT (by simp)⟩
          | k + 2, 0, _ => cases h1
          | k + 2, 1, _ => cases h1
          | _, k + 2, hk => exact (hk (by omega)).elim
        obtain ⟨v, p1, p2, p3, p4⟩ := pullF hk (itemB_T hxi hk) pre post σ hN hap hb
        refine wpOp_one (o := ops[ix]) (by simp [r1]) (Y2.run h hxo p1 fun G' a' w' k1 k2 => ?_)
        exact ih (pre ++ post) hlen _ (step2 σ x v) hg' (step2_noLp hN p2) p4 G' a' w' k1 (hp.trans k2)
theorem draw_b (hm : P.follows .mixedOrders = true) : DrawB P n := by
  intro D id ops T l G σ a w K Q hc h hno hw hn
  simp only [chkB, Bool.and_eq_true, beq_iff_eq] at hc
  obtain ⟨⟨h1, h2⟩, h3, h4⟩ := hc
  refine wp_region_any hm ?_
  have hg : GoodB ops l l (Array.replicate ops.size false) := by
    refine ⟨by simp, List.Sublist.refl l, fun x hx => ?_, fun k hk hno => ?_, fun m hm i hi => ?_⟩
    · have hlt : x.2.1 < ops.size := by
        have := List.all_eq_true.1 h3 x hx
        simp only [itemB, Bool.and_eq_true] at this
        cases ho : ops[x.2.1]? with
        | none => rw [ho] at this; simp at this
        | some o => exact (Array.getElem?_eq_some_iff.1 ho).1
      simp [hlt]
    · obtain ⟨x, hx, e⟩ := List.any_eq_true.1 (List.all_eq_true.1 h2 k (List.mem_range.2 hk))
      exact absurd (beq_iff_eq.1 e) (hno x hx)
    · rcases Nat.lt_or_ge m ops.size with hlt | hge
      · simp [hlt] at hm
      · simp [Array.getElem?_eq_none (show (Array.replicate ops.size false).size ≤ m by simpa using hge)] at hm
  have := run_b (T := T) (P := P) (n := n) (K := K) (Q := Q) G w (fun x hx => List.all_eq_true.1 h3 x hx) (pairsB_pw h4) hn l.length l rfl _ σ hg (fun i c hc => noLpB_no hno i c hc) (bwp_bE l σ hw) G a { w with drawn := w.drawn + 1 } h.drew (Pres.drew G w)
  rwa [h1] at this
theorem xrev_eq : ∀ (p s : List Bool), xrev p s = p.reverse ++ s
 | [], s => rfl
 | x :: p, s => by unfold xrev; rw [xrev_eq p]; simp
theorem xalt_get {done : List Bool} {F : IOper → List Bool → Prop} : ∀ {rows : List (List Bool)} {pre xs : List Bool} {r : List IOper} {j : Nat} {row : List Bool} {o : IOper}, xalt done rows pre xs r F → rows[j]? = some row → r[j]? = some o → xs[j]? = some false → xrdy row done = true → F o (xrev pre (xs.set j true))
 | row :: rows, pre, x :: xs, o :: r, 0, row', o', h, h1, h2, h3, h4 => by
  injection h1 with h1; injection h2 with h2; injection h3 with h3
  subst h1; subst h2; subst h3
  have := h.1
  rw [h4] at this
  exact this
 | row :: rows, pre, x :: xs, o :: r, j + 1, row', o', h, h1, h2, h3, h4 => by
  have := xalt_get (j := j) h.2 (by simpa using h1) (by simpa using h2) (by simpa using h3) h4
  rw [xrev_eq] at this ⊢
  simpa using this
 | [], _, _, _, _, _, _, _, h1, _, _, _ => by simp at h1
 | _ :: _, _, [], _, _, _, _, _, _, _, h3, _ => by simp at h3
 | _ :: _, _, _ :: _, [], _, _, _, _, _, h2, _, _ => by simp at h2
theorem xrdy_of : ∀ {row done : List Bool}, (∀ i, row.getD i false = true → done.getD i false = true) → xrdy row done = true
 | [], _, _ => rfl
 | _ :: _, [], _ => rfl
 | d :: row, x :: done, h => by
  have h0 := h 0
  have ht := xrdy_of (row := row) (done := done) fun i hi => by have := h (i + 1); simp only [List.getD_cons_succ] at this; exact this hi
  unfold xrdy
  rw [ht, Bool.and_true]
  cases d with
  | false => rfl
  | true => simpa using h0
structure GoodX (ops : Array Oper) (done : List Bool) (listed : Array Bool) : Prop where
 size : listed.size = ops.size
 len : done.length = ops.size
 eq : ∀ j, done.getD j false = listed.getD j false
theorem count_set : ∀ {l : List Bool} {j : Nat}, l[j]? = some false → (l.set j true).count false + 1 = l.count false
 | x :: l, 0, h => by injection h with h; subst h; simp
 | x :: l, j + 1, h => by
  have := count_set (l := l) (j := j) (by simpa using h)
  cases x <;> simp <;> omega
 | [], _, h => by simp at h
theorem run_x {K : St → Prop} {Q : Exit → Act → World → Prop} {deps : List (List Bool)} {iops : List IOper} (G₀ : Gh) (w₀ : World) (hI : chkOpers P n ops ops.toList iops = true) (hX : chkXo ops deps = true)
    (hn : ∀ G' σ' a' w', Inv G' n D σ' a' w' → Pres G₀ w₀ G' w' → K σ' → Q .normal a' w') :
    ∀ (f : List IOper) (done : List Bool) (listed : Array Bool) (σ : St), GoodX ops done listed → done.count false = f.length → xwp P deps iops K f done σ → ∀ (G : Gh) (a : Act) (w : World), Inv G n D σ a w → Pres G₀ w₀ G w → wpAny P .any ops Q f.length listed a w
  | [], done, listed, σ, hg, hc, hw, G, a, w, h, hp => by
    refine ⟨List.eq_nil_iff_forall_not_mem.2 fun j hj => ?_, hn G σ a w h hp hw⟩
    obtain ⟨r1, r2, r3⟩ := mem_ready' hj
    have h2 : listed.getD j false = false := by
      have hlt : j < listed.size := by rw [hg.size]; exact r1
      simp only [Array.getD_eq_getD_getElem?, Array.getElem?_eq_getElem hlt, Option.getD_some] at r2 ⊢
      exact r2
    rw [← hg.eq j] at h2
    have hlt : j < done.length := by rw [hg.len]; exact r1
    have hmem : false ∈ done := by
      rw [List.getD_eq_getElem?_getD, List.getElem?_eq_getElem hlt, Option.getD_some] at h2
      rw [← h2]; exact List.getElem_mem hlt
    exact absurd hc (by have := List.count_pos_iff.2 hmem; simp; omega)
  | o0 :: f, done, listed, σ, hg, hc, hw, G, a, w, h, hp => by
    have hX' := hX
    simp only [chkXo, Bool.and_eq_true, beq_iff_eq] at hX'
    obtain ⟨hl, hall⟩ := hX'
    refine ⟨fun h0 => ?_, fun i hi => ?_⟩
    · exfalso
      have hex : ∃ j, j < ops.size ∧ listed.getD j false = false := by
        apply Classical.byContradiction
        intro hno
        have : done.count false = 0 := List.count_eq_zero.2 fun hm => by
          obtain ⟨j, hj, e⟩ := List.getElem_of_mem hm
          refine hno ⟨j, by rw [← hg.len]; exact hj, ?_⟩
          rw [← hg.eq, List.getD_eq_getElem?_getD, List.getElem?_eq_getElem hj, Option.getD_some, e]
        rw [this] at hc; simp at hc
      obtain ⟨j, hj⟩ := hex
      induction j using Nat.strongRecOn with
      | _ j ih =>
        by_cases hk : ∃ k, k < j ∧ k < ops.size ∧ listed.getD k false = false
        · obtain ⟨k, k1, k2⟩ := hk
          exact ih k k1 k2
        · have hj2 := List.all_eq_true.1 hall j (List.mem_range.2 hj.1)
          simp only [Bool.and_eq_true] at hj2
          have h3 := hj2.2
          rw [Array.getElem?_eq_getElem hj.1] at h3
          have hmem : j ∈ Region.ready .any ops listed := by
            refine mem_ready.2 ⟨?_, ops[j], Array.getElem?_eq_getElem hj.1, fun e he hb => ?_⟩
            · have hlt : j < listed.size := by rw [hg.size]; exact hj.1
              have := hj.2
              simp only [Array.getD_eq_getD_getElem?, Array.getElem?_eq_getElem hlt, Option.getD_some] at this ⊢
              exact this
            · have h4 := Array.all_eq_true_iff_forall_mem.1 h3 e he
              rw [hb] at h4
              simp only [Bool.not_true, Bool.false_or, decide_eq_true_eq] at h4
              apply Classical.byContradiction
              intro hno
              exact hk ⟨e.on, h4, by omega, by simpa using hno⟩
          rw [h0] at hmem
          cases hmem
    · obtain ⟨r1, r2, r3⟩ := mem_ready' hi
      have hlt : i < listed.size := by rw [hg.size]; exact r1
      have hlt2 : i < done.length := by rw [hg.len]; exact r1
      have r2' : listed.getD i false = false := by
        simp only [Array.getD_eq_getD_getElem?, Array.getElem?_eq_getElem hlt, Option.getD_some] at r2 ⊢
        exact r2
      have hd : done[i]? = some false := by
        rw [← hg.eq i, List.getD_eq_getElem?_getD, List.getElem?_eq_getElem hlt2, Option.getD_some] at r2'
        rw [List.getElem?_eq_getElem hlt2, r2']
      obtain ⟨hlen, hget⟩ := chkOpers_get _ _ hI
      have hli : i < iops.length := by rw [← hlen]; simpa using r1
      have hio : iops[i]? = some iops[i] := List.getElem?_eq_getElem hli
      have hco : chkOper P n ops ops[i] iops[i] = true := hget i ops[i] iops[i] (by simp [r1]) hio
      have hj2 := List.all_eq_true.1 hall i (List.mem_range.2 r1)
      simp only [Bool.and_eq_true, beq_iff_eq] at hj2
      have hrow : deps[i]? = some (deps.getD i []) := by
        have : i < deps.length := by rw [hl]; exact r1
        rw [List.getD_eq_getElem?_getD, List.getElem?_eq_getElem this, Option.getD_some]
      have hrd : xrdy (deps.getD i []) done = true := xrdy_of fun k hk => by
        have hkl : k < ops.size := by
          rw [← hj2.1.1]
          apply Classical.byContradiction
          intro hno
          rw [List.getD_eq_getElem?_getD, List.getElem?_eq_none (by omega)] at hk
          cases hk
        have := List.all_eq_true.1 hj2.1.2 k (List.mem_range.2 hkl)
        rw [hk] at this
        rw [hg.eq]
        exact r3 k (by simpa using this)
      have hx := xalt_get (F := fun o d => gwp P o σ (fun τ => xwp P deps iops K f d τ)) hw hrow hio hd hrd
      refine wpOp_one (o := ops[i]) (by simp [r1]) (gwp_sound h hco hx fun G' σ' a' w' k1 k2 k3 => ?_)
      refine run_x G₀ w₀ hI hX hn f _ _ σ' ⟨by simp [hg.size], by rw [xrev_eq]; simp [hg.len], fun k => ?_⟩ ?_ k3 G' a' w' k1 (hp.trans k2)
      · rw [xrev_eq]
        show (([] : List Bool).reverse ++ done.set i true).getD k false = _
        rw [List.reverse_nil, List.nil_append]
        by_cases e : k = i
        · subst e
          rw [getD_set_self hlt, List.getD_eq_getElem?_getD, List.getElem?_set_self hlt2]; rfl
        · rw [getD_set e, ← hg.eq, List.getD_eq_getElem?_getD, List.getD_eq_getElem?_getD, List.getElem?_set_ne (Ne.symm e)]
      · rw [xrev_eq]
        show (([] : List Bool).reverse ++ done.set i true).count false = _
        rw [List.reverse_nil, List.nil_append]
        have := count_set hd
        rw [hc] at this
        simp at this
        omega
theorem draw_x (hm : P.follows .mixedOrders = true) : DrawX P n := by
  intro D id ops deps iops G σ a w K Q hc hx h hw hn
  refine wp_region_any hm ?_
  have hlen : iops.length = ops.size := by have := (chkOpers_get _ _ hc).1; simpa using this.symm
  have hf : ∀ l : List IOper, xfalse l = List.replicate l.length false := by
    intro l
    induction l with
    | nil => rfl
    | cons o r ih => show false :: xfalse r = _; rw [ih]; rfl
  have := run_x (P := P) (n := n) (K := K) (Q := Q) G w hc hx hn iops (xfalse iops) (Array.replicate ops.size false) σ ⟨by simp, by rw [hf]; simp [hlen], fun j => by
    rw [hf, hlen]
    rcases Nat.lt_or_ge j ops.size with hj | hj
    · simp [hj]
    · simp [Nat.not_lt.2 hj]⟩ (by rw [hf]; simp) hw G a { w with drawn := w.drawn + 1 } h.drew (Pres.drew G w)
  rwa [hlen] at this
theorem draw_ok (hm : P.follows .mixedOrders = true) : DrawOK P n := ⟨draw_q hm, draw_t hm, draw_b hm, draw_x hm⟩
end
end Go.AB
end
