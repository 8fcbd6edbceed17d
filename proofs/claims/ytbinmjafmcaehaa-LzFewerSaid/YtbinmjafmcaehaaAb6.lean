/- The abstract layer, part 6: operations that only compute are told rightly. -/
import Derived.Test.YtbinmjafmcaehaaAb5
import Derived.Laws.Cells
import Derived.Laws.Strings
import Derived.Laws.Pointers
import Derived.Laws.Small
namespace Go.AB
open Go

theorem cR_vr {v : Value} {a : AV} (h : cR v a = true) (w : World) (R : Nat → Nat) : VR w R a v := by
  unfold cR at h
  split at h
  · obtain rfl := beq_iff_eq.1 h; exact .bool _
  · rw [Bool.and_eq_true] at h; obtain ⟨h1, h2⟩ := h; obtain rfl := of_decide_eq_true h1; obtain rfl := beq_iff_eq.1 h2; exact .int _ _
  · obtain rfl := beq_iff_eq.1 h
    rename_i s
    have : ∀ b : ByteArray, b = ⟨b.data.toList.toArray⟩ := fun b => by cases b; simp
    conv => rhs; rw [this s]
    exact .str _
  · exact .nilp
  · exact .slnil _ _
  · exact .nilm
  · exact .nilf
  · cases h

theorem cR_isV {v : Value} {a : AV} (h : cR v a = true) : isV a = true := by
  unfold cR at h
  split at h <;> first | rfl | cases h

theorem cRs_get {vs : List Value} {as : List AV} (h : cRs vs as = true) : vs.length = as.length ∧ ∀ (j : Nat) (c : AV) (v : Value), as[j]? = some c → vs[j]? = some v → cR v c = true := by
  induction vs generalizing as with
  | nil => cases as with
    | nil => exact ⟨rfl, fun j c v hc => by simp at hc⟩
    | cons => simp [cRs] at h
  | cons v vs ih => cases as with
    | nil => simp [cRs] at h
    | cons a as =>
      simp only [cRs, Bool.and_eq_true] at h
      obtain ⟨h1, h2⟩ := ih h.2
      refine ⟨by simp [h1], fun j c u hc hu => ?_⟩
      cases j with
      | zero => simp at hc hu; subst hc; subst hu; exact h.1
      | succ j => exact h2 j c u (by simpa using hc) (by simpa using hu)

theorem cR_flat {v : Value} {a : AV} (h : cR v a = true) : flatV a = true := by
  unfold cR at h
  split at h <;> first | rfl | cases h

theorem cRs_fl : ∀ {vs : List Value} {as : List AV}, cRs vs as = true → Fl as
  | [], [], _ => Fl.nil
  | v :: vs, a :: as, h => by
    simp only [cRs, Bool.and_eq_true] at h
    intro c hc
    rcases List.mem_cons.1 hc with rfl | hc
    · exact cR_flat h.1
    · exact cRs_fl h.2 c hc
  | [], _ :: _, h => by simp [cRs] at h
  | _ :: _, [], h => by simp [cRs] at h

theorem cRs_agg {vs : Array Value} {cs : List AV} (h : cRs vs.toList cs = true) (w : World) (R : Nat → Nat) : VR w R (.agg cs) (.agg vs) := by
  obtain ⟨h1, h2⟩ := cRs_get h
  exact .agg cs vs (cRs_fl h) (by simpa using h1) fun j c v hc hv => cR_vr (h2 j c v hc (by simpa using hv)) w R

/-- A const that is checked owns nothing that could be shared. -/
theorem cR_own {v : Value} {a : AV} (h : cR v a = true) (G : Gh) (w : World) (o : Owner) : OwnR G w o a v := by
  unfold cR at h
  split at h <;> first | (cases h; done) | trivial | skip
  rename_i own sz
  cases own with
  | false => trivial
  | true => intro base m cap hv hc; injection hv with _ h2 h3; omega

section
variable {P : Program} {G : Gh} {n : Nat} {σ : St} {a : Act} {w : World}

/-- What an operand reads as. -/
def BR (G : Gh) (w : World) (σ : St) (a : Act) (x : IX) : AV → Value → Prop
  | .loc cs, v => ∃ i b c t, x = .t i ∧ look σ.e i = .loc cs ∧ a.tmps[i]? = some v ∧ v = .pointer (some ⟨b, 0, none⟩) ∧ G.O b = .loc i ∧ G.R b = 0 ∧ w.heap[b]? = some (.cells c t (0, 0)) ∧ CellsR G w (.cell b) cs c ∧ Fl cs
  | .lp d off, v => ∃ b, v = .pointer (some ⟨b, off, none⟩) ∧ ∀ cs, look σ.e d = .loc cs → a.tmps[d]? = some (.pointer (some ⟨b, 0, none⟩))
  | .when _ _, _ => True
  | av, v => VR w G.R av v

def XR (G : Gh) (w : World) (σ : St) (a : Act) (x : IX) : AV → Value → Prop
  | .when b av, v => b = true → inner av = true → BR G w σ a x av v
  | av, v => BR G w σ a x av v

theorem BR.vr {x : IX} {av : AV} {v : Value} (h : isV av = true) (hv : BR G w σ a x av v) : VR w G.R av v := by
  cases av <;> simp_all [isV, BR]

theorem XR.br {x : IX} {av : AV} {v : Value} (hv : XR G w σ a x av v) : BR G w σ a x (unw true av) v := by
  cases av <;> try exact hv
  rename_i b av
  cases b with
  | false =>
    have : unw true (.when false av) = .undef := by simp [unw]
    rw [this]; exact VR.undef v
  | true =>
    cases hi : inner av with
    | false =>
      have : unw true (.when true av) = .undef := by simp [unw, hi]
      rw [this]; exact VR.undef v
    | true =>
      have : unw true (.when true av) = av := by simp [unw, hi]
      rw [this]; exact hv rfl hi

theorem XR.of_valS {i : Nat} (hi : a.tmps[i]? = some (a.eval (.tmp i))) {av : AV} (hl : look σ.e i = av) (h : ValS G w σ.e a.tmps i av (a.eval (.tmp i))) : XR G w σ a (.t i) av (a.eval (.tmp i)) := by
  have base : ∀ av : AV, (∀ cs, av = .loc cs → look σ.e i = .loc cs) → ValS G w σ.e a.tmps i av (a.eval (.tmp i)) → BR G w σ a (.t i) av (a.eval (.tmp i)) := by
    intro av hl h
    cases av with
    | loc cs =>
      obtain ⟨b, c, t, h1, h2, h3, h4, h5⟩ := h
      exact ⟨i, b, c, t, rfl, hl cs rfl, hi, h1, h2, h3, h4, h5⟩
    | lp d off => exact h
    | tup vs =>
      obtain ⟨ys, h1, h2⟩ := h
      rw [h1]
      exact VR.tup vs ys h2.1 fun j c u hc hu => (h2.2 j c u hc hu).1
    | «when» b av => trivial
    | _ => exact h.1
  cases av with
  | «when» b av => exact fun hb hin => base av (fun cs hcs => by subst hcs; cases hin) (h.1 hb)
  | _ => exact base _ (fun cs hcs => by rw [hl, hcs]) h

theorem eval_some {i : Nat} (hi : i < a.tmps.size) : a.tmps[i]? = some (a.eval (.tmp i)) := by
  simp [Act.eval, Array.getD_eq_getD_getElem?, hi]

/-- Operands that are checked read as the abstract state says. -/
theorem XR.of_inv (h : Inv G n σ a w) {o : Operand} {x : IX} (hx : chkX o x = true) : XR G w σ a x (σ.x x) (a.eval o) := by
  unfold chkX at hx
  split at hx
  · rename_i t i
    obtain rfl := beq_iff_eq.1 hx
    rcases Nat.lt_or_ge t n with ht | ht
    · have hs : t < a.tmps.size := by rw [h.size]; exact ht
      exact XR.of_valS (eval_some hs) rfl (h.slots t _ (eval_some hs))
    · have : σ.x (.t t) = .undef := h.dom t ht
      rw [this]; exact VR.undef _
  · exact cRs_agg hx w G.R
  · rename_i v av _
    have hv := cR_vr hx w G.R
    have hi := cR_isV hx
    show XR G w σ a _ av v
    cases av <;> first | exact hv | (simp [isV] at hi)
  · rename_i f g
    obtain rfl := beq_iff_eq.1 hx
    exact VR.fn f [] [] #[] #[] rfl (fun j c v hc => by simp at hc) rfl (fun j c v hc => by simp at hc)
  · cases hx

theorem BR.of_inv (h : Inv G n σ a w) {o : Operand} {x : IX} (hx : chkX o x = true) : BR G w σ a x (xg true σ x) (a.eval o) := (XR.of_inv h hx).br

/-- What an operation that only computes leaves. -/
def NR (G : Gh) (w : World) (σ : St) (a : Act) (av : AV) (v : Value) : Prop :=
  match av with
  | .lp d off => ∃ b, v = .pointer (some ⟨b, off, none⟩) ∧ ∀ cs, look σ.e d = .loc cs → a.tmps[d]? = some (.pointer (some ⟨b, 0, none⟩))
  | av => isV av = true ∧ VR w G.R av v ∧ view av = av
end
end Go.AB
