/- The abstract layer, part 21: any order of a region. -/
import Derived.Test.YtbinmjafmcaehaaAb20
namespace Go.AB
open Go

section
variable {P : Program} {G G' : Gh} {n : Nat} {σ σ' : St} {a : Act} {w w' : World}

theorem Inv.whenFalse {d : Option Nat} {av : AV} (h : Inv G n (σ.put d (.tup [])) a w) (hd : dstOK n d = true) (hnl : ∀ t, ¬ holdsLp av t) : Inv G n (σ.put d (.when false av)) a w := by
  cases d with
  | none => exact h
  | some i =>
    have hi : i < n := by simpa [dstOK] using hd
    have e1 : look (σ.put (some i) (.tup [])).e i = .tup [] := by simp [St.put, look_cons]
    have := h.reabs i hi (.when false av) hnl (fun cs e => by cases e) (fun v hv => by
      have hs := h.slots i v hv
      rw [e1] at hs
      obtain ⟨ys, rfl, h2⟩ := hs
      refine ⟨fun hh => Bool.noConfusion hh, fun _ => ?_⟩
      have : ys = #[] := Array.eq_empty_of_size_eq_zero (by simpa using h2.1)
      rw [this])
    refine this.eqv ⟨fun j => ?_, fun _ => Iff.rfl, rfl⟩
    simp only [St.put, look_cons]
    split <;> rfl

theorem retV_noLp {rs : List AV} (h : rsOK rs = true) (t : Nat) : ¬ holdsLp (retV rs) t := by
  match rs, h with
  | [], _ => exact fun h => h
  | [r], h => exact not_holdsLp (show isV r = true from h) t
  | _ :: _ :: _, _ => exact fun h => h

theorem qe_iwp {op : IOp} {d : Option Nat} {v : AV} {K : St → Prop} (h : qe (xg true σ) σ.s op = .tot v ∨ ∃ c, qe (xg true σ) σ.s op = .prt c v ∧ c) (hk : K (σ.put d v)) : iwp P op d σ K := by
  cases op <;> first | (rcases h with h | ⟨c, h, _⟩ <;> cases h; done) | skip
  case cvtBytes x =>
    show cvtBytesW σ d K (xg true σ x)
    have h' : bytesPR (xg true σ x) = .tot v ∨ ∃ c, bytesPR (xg true σ x) = .prt c v ∧ c := h
    cases hx : xg true σ x <;> rw [hx] at h' <;> first | (rcases h' with h' | ⟨c, h', _⟩ <;> cases h'; done) | skip
    rcases h' with h' | ⟨c, h', _⟩
    · injection h' with h'; subst h'; exact hk
    · cases h'
  case lookup kk z ok x k =>
    show prK σ d K (lookupV kk z ok σ.s (xg true σ k) (xg true σ x))
    have h' : lookupV kk z ok σ.s (xg true σ k) (xg true σ x) = .tot v ∨ ∃ c, lookupV kk z ok σ.s (xg true σ k) (xg true σ x) = .prt c v ∧ c := h
    rcases h' with h' | ⟨c, h', hc⟩ <;> rw [h']
    · exact hk
    · exact ⟨hc, hk⟩
  case movT x =>
    show prK σ d K (tupV (xg true σ x))
    have h' : tupV (xg true σ x) = .tot v ∨ ∃ c, tupV (xg true σ x) = .prt c v ∧ c := h
    rcases h' with h' | ⟨c, h', hc⟩ <;> rw [h']
    · exact hk
    · exact ⟨hc, hk⟩
  case cvtRow x =>
    show prK σ d K (rowV (xg true σ x))
    have h' : rowV (xg true σ x) = .tot v ∨ ∃ c, rowV (xg true σ x) = .prt c v ∧ c := h
    rcases h' with h' | ⟨c, h', hc⟩ <;> rw [h']
    · exact hk
    · exact ⟨hc, hk⟩
  case buildSl sz m z ps =>
    show buildSlW sz m σ d K (fill (xg true σ) z ps)
    have h' : rowPR sz m (fill (xg true σ) z ps) = .tot v ∨ ∃ c, rowPR sz m (fill (xg true σ) z ps) = .prt c v ∧ c := h
    cases hx : fill (xg true σ) z ps <;> rw [hx] at h'
    · rcases h' with h' | ⟨c, h', _⟩ <;> cases h'
    · rcases h' with h' | ⟨c, h', hc⟩
      · cases h'
      · injection h' with h1 h2; subst h1; subst h2; exact ⟨hc, hk⟩

/-- An operation that may come up in any order, run. -/
theorem Y.run (h : Inv G n σ a w) {ops : Array Oper} {o : Oper} {o' : IOper} {v : AV} (hc : chkOper P n ops o o' = true) (hy : Y P σ o' v) {next : Act → World → Prop} {Q : Exit → Act → World → Prop}
    (hn : ∀ G' a' w', Inv G' n (step σ o' v) a' w' → Pres G w G' w' → next a' w') : oneP P ops o a w next Q := by
  have gen : gwp P o' σ (fun τ => τ = step σ o' v) → oneP P ops o a w next Q := fun hg => gwp_sound h hc hg fun G' σ' a' w' h1 h2 h3 => by subst h3; exact hn G' a' w' h1 h2
  cases hy with
  | mov d x hi =>
    refine gen ?_
    show movW σ x d (fun τ => τ = step σ ⟨d, .mov true x, none⟩ (σ.x x)) (σ.x x)
    refine ⟨hi, ?_⟩
    show _ = (lpReg (σ.drain x) (σ.x x) d).put d (σ.x x)
    rw [isV_noLp hi]
  | pure _ _ hq =>
    refine gen ?_
    have hdr : dr o' σ = σ := dr_qv (by rcases hq with hq | ⟨c, hq, _⟩ <;> rw [hq] <;> simp)
    have hst : step σ o' v = (lpReg σ v o'.dst).put o'.dst v := by unfold step; rw [hdr]
    rw [hst]
    obtain ⟨d, op, g⟩ := o'
    cases g with
    | none =>
      show nxt P op σ d (fun τ => τ = (lpReg σ v d).put d v) (pv op (xg true σ) σ)
      have hq' : (pv op (xg true σ) σ = .tot v ∨ ∃ c, pv op (xg true σ) σ = .prt c v ∧ c) := hq
      rcases hq' with hq | ⟨c, hq, hcc⟩
      · rw [hq]; rfl
      · rw [hq]; exact ⟨hcc, rfl⟩
    | some tw =>
      obtain ⟨t, want⟩ := tw
      show gsel P op d t want σ _ (look σ.e t)
      have hq' : (qvG op want σ (look σ.e t) = .tot v ∨ ∃ c, qvG op want σ (look σ.e t) = .prt c v ∧ c) := hq
      cases hl : look σ.e t <;> rw [hl] at hq' <;> try (rcases hq' with hq | ⟨c, hq, _⟩ <;> cases hq)
      rename_i b
      show nxg P (b == want) op σ d (fun τ => τ = (lpReg σ v d).put d v) (pv op (xg (b == want) σ) σ)
      have hq2 : (wPR (b == want) (pv op (xg (b == want) σ) σ) = .tot v ∨ ∃ c, wPR (b == want) (pv op (xg (b == want) σ) σ) = .prt c v ∧ c) := hq'
      cases hp : pv op (xg (b == want) σ) σ with
      | tot x =>
        rw [hp] at hq2
        rcases hq2 with hq | ⟨c, hq, _⟩
        · injection hq with hq; subst hq; rfl
        · cases hq
      | prt c x =>
        rw [hp] at hq2
        rcases hq2 with hq | ⟨c', hq, hcc⟩
        · cases hq
        · injection hq with hq1 hq2; subst hq1; subst hq2; exact ⟨hcc, rfl⟩
      | no =>
        rw [hp] at hq2
        rcases hq2 with hq | ⟨c', hq, hcc⟩ <;> cases hq
  | call d f args as rs h1 h2 h3 =>
    refine gen ?_
    show callW P f σ d _ (argsV (xg true σ) args)
    rw [h1]
    refine FE.app h3 ⟨h2, ?_⟩
    show _ = (lpReg σ (retV rs) d).put d (retV rs)
    rw [retV_lp h2]
  | callG d f args t want b rs h0 h2 h1 =>
    have hd : dstOK n d = true := by
      simp only [chkOper, Bool.and_eq_true] at hc
      exact hc.1.1.2
    have hst : step σ ⟨d, .call f args, some (t, want)⟩ (.when (b == want) (retV rs)) = σ.put d (.when (b == want) (retV rs)) := by
      show (lpReg σ (.when (b == want) (retV rs)) d).put d (.when (b == want) (retV rs)) = _
      have : lpReg σ (.when (b == want) (retV rs)) d = σ := retV_lp h2 σ d
      rw [this]
    rw [hst] at hn
    refine gwp_sound (K := fun τ => ((b == want) = true ∧ τ = σ.put d (retV rs)) ∨ ((b == want) = false ∧ τ = σ.put d (.tup []))) h hc ?_ fun G' σ' a' w' k1 k2 k3 => ?_
    · show gsel P (.call f args) d t want σ _ (look σ.e t)
      rw [h0]
      refine ⟨fun hb => ?_, fun hb => .inr ⟨hb, rfl⟩⟩
      obtain ⟨as, q1, q2⟩ := h1 hb
      show callW P f σ d _ (argsV (xg true σ) args)
      rw [q1]
      exact FE.app q2 ⟨h2, .inl ⟨hb, rfl⟩⟩
    · rcases k3 with ⟨hb, rfl⟩ | ⟨hb, rfl⟩
      · rw [hb] at hn; exact hn G' a' w' (k1.whenTrue hd) k2
      · rw [hb] at hn; exact hn G' a' w' (k1.whenFalse hd (retV_noLp h2)) k2
  | eff _ _ hq =>
    obtain ⟨_, hnl, hlp, hdr⟩ := qeO_v hq
    have hst : step σ o' v = σ.put o'.dst v := by unfold step; rw [hdr, hlp]
    obtain ⟨d, op, g⟩ := o'
    cases g with
    | none =>
      refine gen ?_
      have hq' : qe (xg true σ) σ.s op = .tot v ∨ ∃ c, qe (xg true σ) σ.s op = .prt c v ∧ c := hq
      show nxt P op σ d (fun τ => τ = step σ ⟨d, op, none⟩ v) (pv op (xg true σ) σ)
      rw [(qe_plain (hq'.imp id fun ⟨c, h, _⟩ => ⟨c, h⟩)).2.1]
      exact qe_iwp hq' hst.symm
    | some tw =>
      obtain ⟨t, want⟩ := tw
      have hd : dstOK n d = true := by
        simp only [chkOper, Bool.and_eq_true] at hc
        exact hc.1.1.2
      have hq' : qeG op want σ (look σ.e t) = .tot v ∨ ∃ c, qeG op want σ (look σ.e t) = .prt c v ∧ c := hq
      cases hl : look σ.e t <;> rw [hl] at hq' <;> first | (rcases hq' with h' | ⟨c, h', _⟩ <;> cases h'; done) | skip
      rename_i b
      obtain ⟨u, hu, hv⟩ : ∃ u, ((b == want) = true → (qe (xg true σ) σ.s op = .tot u ∨ ∃ c, qe (xg true σ) σ.s op = .prt c u ∧ c)) ∧ v = .when (b == want) u := by
        have h2 : wPR (b == want) (qe (xg (b == want) σ) σ.s op) = .tot v ∨ ∃ c, wPR (b == want) (qe (xg (b == want) σ) σ.s op) = .prt c v ∧ c := hq'
        cases hq2 : qe (xg (b == want) σ) σ.s op with
        | tot u =>
          rw [hq2] at h2
          refine ⟨u, fun hb => ?_, ?_⟩
          · rw [hb] at hq2; exact .inl hq2
          · rcases h2 with h2 | ⟨c, h2, _⟩
            · injection h2 with h2; exact h2.symm
            · cases h2
        | prt c u =>
          rw [hq2] at h2
          rcases h2 with h2 | ⟨c', h2, hc'⟩
          · cases h2
          · injection h2 with h3 h4
            refine ⟨u, fun hb => ?_, h4.symm⟩
            rw [hb] at hq2
            subst h3
            exact .inr ⟨c, hq2, hc' hb⟩
        | no => rw [hq2] at h2; rcases h2 with h2 | ⟨c, h2, _⟩ <;> cases h2
      subst hv
      have hpn : ∀ f τ, pv op f τ = .no := by
        intro f τ
        have h2 : wPR (b == want) (qe (xg (b == want) σ) σ.s op) = .tot _ ∨ ∃ c, wPR (b == want) (qe (xg (b == want) σ) σ.s op) = .prt c _ ∧ c := hq'
        cases op <;> first | rfl | (rcases h2 with h2 | ⟨c, h2, _⟩ <;> cases h2)
      rw [hst] at hn
      refine gwp_sound (K := fun τ => ((b == want) = true ∧ τ = σ.put d u) ∨ ((b == want) = false ∧ τ = σ.put d (.tup []))) h hc ?_ fun G' σ' a' w' k1 k2 k3 => ?_
      · show gsel P op d t want σ _ (look σ.e t)
        rw [hl]
        unfold gsel
        simp only []
        rw [hpn]
        unfold nxg
        refine ⟨fun hb => ?_, fun hb => .inr ⟨hb, rfl⟩⟩
        show nxt P op σ d _ (pv op (xg true σ) σ)
        rw [hpn]
        exact qe_iwp (hu hb) (.inl ⟨hb, rfl⟩)
      · rcases k3 with ⟨hb, rfl⟩ | ⟨hb, rfl⟩
        · rw [hb] at hn; exact hn G' a' w' (k1.whenTrue hd) k2
        · rw [hb] at hn; exact hn G' a' w' (k1.whenFalse hd fun t ht => hnl t ht) k2

theorem qwp_seq {ops : Array Oper} {Q : Exit → Act → World → Prop} {K : St → Prop} (G₀ : Gh) (w₀ : World)
    (hn : ∀ G' σ' a' w', Inv G' n σ' a' w' → Pres G₀ w₀ G' w' → K σ' → Q .normal a' w') : ∀ (q : Nat) (l : List Oper) (l' : List IOper) (G : Gh) (σ : St) (a : Act) (w : World), chkOpers P n ops l l' = true → Inv G n σ a w → Pres G₀ w₀ G w → qwp P q l' σ K → wpList P ops Q l a w
  | 0, l, l', G, σ, a, w, hc, h, hp, hk => swp_sound G₀ w₀ hn l l' G σ a w hc h hp hk
  | _ + 1, [], [], G, σ, a, w, _, h, hp, hk => hn G σ a w h hp hk
  | q + 1, o :: l, o' :: l', G, σ, a, w, hc, h, hp, hk => by
    simp only [chkOpers, Bool.and_eq_true] at hc
    obtain ⟨hf, hk⟩ := hk
    obtain ⟨v, hv, hy, hk⟩ := q1_inv hk
    show oneP P ops o a w (wpList P ops Q l) Q
    exact hy.run h hc.1 fun G' a' w' h1 h2 => qwp_seq G₀ w₀ hn q l l' G' _ a' w' hc.2 h1 (hp.trans h2) hk
  | _ + 1, [], _ :: _, _, _, _, _, hc, _, _, _ => by simp [chkOpers] at hc
  | _ + 1, _ :: _, [], _, _, _, _, hc, _, _, _ => by simp [chkOpers] at hc

/-- Operations that wait, with their values. -/
abbrev Pend := List (Nat × IOper × AV)
def Chain (P : Program) : St → Pend → Prop
  | _, [] => True
  | σ, (_, o, v) :: r => slotFree σ o.dst = true ∧ notLoc v = true ∧ Y P σ o v ∧ Chain P (step σ o v) r
def fin : St → Pend → St
  | σ, [] => σ
  | σ, (_, o, v) :: r => fin (step σ o v) r

theorem Chain.eqv : ∀ {p : Pend} {σ σ' : St}, Eqv σ σ' → Chain P σ p → Chain P σ' p
  | [], _, _, _, _ => trivial
  | (_, o, v) :: r, _, _, h, ⟨h1, h2, h3, h4⟩ => ⟨by rw [← h.free]; exact h1, h2, h3.agr (h.agr o), Chain.eqv (h.step o v) h4⟩
theorem fin_eqv : ∀ (p : Pend) {σ σ' : St}, Eqv σ σ' → Eqv (fin σ p) (fin σ' p)
  | [], _, _, h => h
  | (_, o, v) :: r, _, _, h => fin_eqv r (h.step o v)

theorem drained_slots {o : IOper} {i : Nat} (h : drained o i = true) : i ∈ slots o := by
  unfold drained at h
  split at h
  · rename_i j hop
    have : j = i := by simpa using h
    subst this
    refine List.mem_append_right _ ?_
    rw [hop]
    exact List.mem_cons_self
  · cases h

theorem ap_spec {x y : IOper} (h : ap x y = true) : notIn x.dst (slots y) = true ∧ notIn y.dst (slots x) = true ∧ (∀ i j, x.dst = some i → y.dst = some j → i ≠ j) ∧ noDr x y = true ∧ noDr y x = true ∧ (∀ i, y.dst = some i → drained x i = false) ∧ (∀ i, x.dst = some i → drained y i = false) := by
  unfold ap at h
  simp only [Bool.and_eq_true] at h
  refine ⟨h.1.1.2, h.1.2, fun i j hi hj => ?_, h.1.1.1.1, h.1.1.1.2, fun i hi => ?_, fun i hi => ?_⟩
  · have := h.2
    rw [hi, hj] at this
    simpa using this
  · have := h.1.2
    rw [hi] at this
    simp [notIn] at this
    cases hd : drained x i with
    | false => rfl
    | true => exact absurd (drained_slots hd) this
  · have := h.1.1.2
    rw [hi] at this
    simp [notIn] at this
    cases hd : drained y i with
    | false => rfl
    | true => exact absurd (drained_slots hd) this

/-- What meets nothing before it may come first. -/
theorem pull {x : Nat × IOper × AV} : ∀ (pre : Pend) (post : Pend) (σ : St), (∀ y ∈ pre, ap y.2.1 x.2.1 = true) → Chain P σ (pre ++ x :: post) →
    slotFree σ x.2.1.dst = true ∧ notLoc x.2.2 = true ∧ Y P σ x.2.1 x.2.2 ∧ Chain P (step σ x.2.1 x.2.2) (pre ++ post) ∧ Eqv (fin (step σ x.2.1 x.2.2) (pre ++ post)) (fin σ (pre ++ x :: post))
  | [], post, σ, _, h => ⟨h.1, h.2.1, h.2.2.1, h.2.2.2, Eqv.refl _⟩
  | (k, o, v) :: pre, post, σ, hap, h => by
    obtain ⟨h1, h2, h3, h4⟩ := h
    obtain ⟨i1, i2, i3, i4, i5⟩ := pull pre post (step σ o v) (fun y hy => hap y (List.mem_cons_of_mem _ hy)) h4
    obtain ⟨a1, a2, a3, a4, a5, a6, a7⟩ := ap_spec (hap (k, o, v) List.mem_cons_self)
    have hfx : slotFree σ x.2.1.dst = true := by
      cases hd : x.2.1.dst with
      | none => rfl
      | some j =>
        rw [hd] at i1
        have i1' : notLoc (look (step σ o v).e j) = true := i1
        rw [look_step, if_neg (fun e => a3 j j e hd rfl)] at i1'
        show notLoc (look σ.e j) = true
        split at i1'
        · rw [notLoc_view] at i1'; exact i1'
        · exact i1'
    have hfo : slotFree (step σ x.2.1 x.2.2) o.dst = true := by
      cases hd : o.dst with
      | none => rfl
      | some j =>
        rw [hd] at h1
        show notLoc (look (step σ x.2.1 x.2.2).e j) = true
        rw [look_step, if_neg (fun e => a3 j j hd e rfl)]
        split
        · rw [notLoc_view]; exact h1
        · exact h1
    have hcomm : Eqv (step (step σ o v) x.2.1 x.2.2) (step (step σ x.2.1 x.2.2) o v) := step_comm a3 a6 a7
    refine ⟨hfx, i2, i3.agr (agr_step h1 h2 a1 a4).symm, ⟨hfo, h2, h3.agr (agr_step hfx i2 a2 a5), i4.eqv hcomm⟩, ?_⟩
    exact (fin_eqv (pre ++ post) hcomm.symm).trans i5
end
end Go.AB
