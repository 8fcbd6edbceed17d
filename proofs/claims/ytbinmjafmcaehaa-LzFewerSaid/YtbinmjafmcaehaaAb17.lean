/- The abstract layer, part 17: regions in their order, control, functions. -/
import Derived.Test.YtbinmjafmcaehaaAb16
import Derived.LoopN
namespace Go.AB
open Go

section
variable {P : Program} {G G' : Gh} {n : Nat} {σ : St} {a : Act} {w w' : World}

theorem swp_sound {ops : Array Oper} {Q : Exit → Act → World → Prop} {K : St → Prop} (G₀ : Gh) (w₀ : World)
    (hn : ∀ G' σ' a' w', Inv G' n σ' a' w' → Pres G₀ w₀ G' w' → K σ' → Q .normal a' w') : ∀ (l : List Oper) (l' : List IOper) (G : Gh) (σ : St) (a : Act) (w : World), chkOpers P n ops l l' = true → Inv G n σ a w → Pres G₀ w₀ G w → swp P l' σ K → wpList P ops Q l a w
  | [], [], G, σ, a, w, _, h, hp, hk => hn G σ a w h hp hk
  | o :: l, o' :: l', G, σ, a, w, hc, h, hp, hk => by
    simp only [chkOpers, Bool.and_eq_true] at hc
    show oneP P ops o a w (wpList P ops Q l) Q
    exact gwp_sound h hc.1 hk fun G' σ' a' w' h1 h2 h3 => swp_sound G₀ w₀ hn l l' G' σ' a' w' hc.2 h1 (hp.trans h2) h3
  | [], _ :: _, _, _, _, _, hc, _, _, _ => by simp [chkOpers] at hc
  | _ :: _, [], _, _, _, _, hc, _, _, _ => by simp [chkOpers] at hc

theorem look_keep (e : List (Nat × AV)) (i : Nat) : ∀ (live : List Nat), look (live.map fun j => (j, dropLp (look e j))) i = if i ∈ live then dropLp (look e i) else .undef
  | [] => rfl
  | j :: live => by
    rw [List.map_cons, look_cons, look_keep e i live]
    by_cases h : j = i
    · subst h; simp
    · simp [h, Ne.symm h]

theorem dropLp_no (av : AV) (t : Nat) : ¬ holdsLp (dropLp av) t := by cases av <;> simp [dropLp, holdsLp]

/-- What is kept: the slots that are live, and no pointer into a local block. -/
theorem Inv.keep (h : Inv G n σ a w) (live : List Nat) : Inv G n (σ.keep live) a w := by
  have hl : ∀ i, look (σ.keep live).e i = if i ∈ live then dropLp (look σ.e i) else .undef := fun i => look_keep σ.e i live
  have hu : ∀ i v, ValS G w (σ.keep live).e a.tmps i .undef v := fun i v => ⟨.undef _, trivial⟩
  refine ⟨h.good, h.store, h.size, fun i v hv => ?_, fun i hi => ?_, fun i t ht => ?_, h.def0⟩
  · rw [hl i]
    by_cases hi : i ∈ live
    · rw [if_pos hi]
      have hs := h.slots i v hv
      generalize look σ.e i = av at hs
      have fr : ∀ av, (∀ t, ¬ holdsLp av t) → ValS G w σ.e a.tmps i av v → ValS G w (σ.keep live).e a.tmps i av v := fun av hno hs =>
        ValS.frame (fun _ _ hv => hv) (fun b _ => ⟨rfl, rfl, rfl⟩) (fun _ _ _ _ hc => ⟨hc, rfl, rfl⟩) _ _ (fun t ht => (hno t ht).elim) hs
      cases av <;> first | exact hu i v | exact fr _ (fun t ht => ht) hs
    · rw [if_neg hi]; exact hu i v
  · rw [hl i]
    by_cases hi' : i ∈ live
    · rw [if_pos hi', h.dom i hi]; rfl
    · rw [if_neg hi']
  · rw [hl i] at ht
    by_cases hi : i ∈ live
    · rw [if_pos hi] at ht; exact (dropLp_no _ t ht).elim
    · rw [if_neg hi] at ht; exact ht.elim

theorem look_keepV (e : List (Nat × AV)) (i : Nat) : ∀ (live : List (Nat × Bool)), look (live.map fun p => (p.1, vwIf p.2 (dropLp (look e p.1)))) i = .undef ∨ look (live.map fun p => (p.1, vwIf p.2 (dropLp (look e p.1)))) i = dropLp (look e i) ∨ look (live.map fun p => (p.1, vwIf p.2 (dropLp (look e p.1)))) i = view (dropLp (look e i))
  | [] => .inl rfl
  | p :: live => by
    rw [List.map_cons, look_cons]
    by_cases h : p.1 = i
    · rw [if_pos h, h]
      cases p.2 with
      | false => exact .inr (.inl rfl)
      | true => exact .inr (.inr rfl)
    · rw [if_neg h]; exact look_keepV e i live

theorem ValS.view' {e : List (Nat × AV)} {tmps : Array Value} {i : Nat} {av : AV} {v : Value} (h : ValS G w e tmps i av v) : ValS G w e tmps i (view av) v := by
  cases av <;> first | exact h | exact ⟨VR.view h.1, OwnR.view ..⟩

theorem view_no (av : AV) (h : ∀ t, ¬ holdsLp av t) (t : Nat) : ¬ holdsLp (view av) t := by cases av <;> first | exact h t | exact fun h => h

/-- The same where a slice may be owned no more. -/
theorem Inv.keepV (h : Inv G n σ a w) (live : List (Nat × Bool)) : Inv G n (σ.keepV live) a w := by
  have fr : ∀ i v, a.tmps[i]? = some v → ValS G w (σ.keepV live).e a.tmps i (dropLp (look σ.e i)) v := fun i v hv => by
    have hs := h.slots i v hv
    generalize look σ.e i = av at hs
    have fr : ∀ av, (∀ t, ¬ holdsLp av t) → ValS G w σ.e a.tmps i av v → ValS G w (σ.keepV live).e a.tmps i av v := fun av hno hs =>
      ValS.frame (fun _ _ hv => hv) (fun b _ => ⟨rfl, rfl, rfl⟩) (fun _ _ _ _ hc => ⟨hc, rfl, rfl⟩) _ _ (fun t ht => (hno t ht).elim) hs
    cases av <;> first | exact ⟨.undef _, trivial⟩ | exact fr _ (fun t ht => ht) hs
  have hl := fun i => look_keepV σ.e i live
  refine ⟨h.good, h.store, h.size, fun i v hv => ?_, fun i hi => ?_, fun i t ht => ?_, h.def0⟩
  · rcases hl i with e | e | e
    · have e' : look (σ.keepV live).e i = .undef := e
      rw [e']; exact ⟨.undef _, trivial⟩
    · have e' : look (σ.keepV live).e i = dropLp (look σ.e i) := e
      rw [e']; exact fr i v hv
    · have e' : look (σ.keepV live).e i = view (dropLp (look σ.e i)) := e
      rw [e']; exact ValS.view' (fr i v hv)
  · rcases hl i with e | e | e
    · exact e
    · have e' : look (σ.keepV live).e i = dropLp (look σ.e i) := e
      rw [e', h.dom i hi]; rfl
    · have e' : look (σ.keepV live).e i = view (dropLp (look σ.e i)) := e
      rw [e', h.dom i hi]; rfl
  · have ht' : holdsLp (look (σ.keepV live).e i) t := ht
    rcases hl i with e | e | e
    · have e' : look (σ.keepV live).e i = .undef := e
      rw [e'] at ht'; exact ht'.elim
    · have e' : look (σ.keepV live).e i = dropLp (look σ.e i) := e
      rw [e'] at ht'; exact (dropLp_no _ t ht').elim
    · have e' : look (σ.keepV live).e i = view (dropLp (look σ.e i)) := e
      rw [e'] at ht'; exact (view_no _ (dropLp_no _) t ht').elim

/-- What is to be shown of regions that draw their order. -/
def DrawOK (P : Program) (n : Nat) : Prop :=
  ∀ (draw : Bool) (id : Nat) (ops : Array Oper) (iops : List IOper) (q : Nat) (G : Gh) (σ : St) (a : Act) (w : World) (K : St → Prop) (Q : Exit → Act → World → Prop),
    chkOpers P n ops ops.toList iops = true → (draw = true → chkDr ops q iops = true) → Inv G n σ a w → qwp P q iops σ K →
    (∀ G' σ' a' w', Inv G' n σ' a' w' → Pres G w G' w' → K σ' → Q .normal a' w') → (Code.region id ops draw).wp P Q a w

def Rel (n : Nat) (G₀ : Gh) (w₀ : World) (Q : Exit → St → Prop) (Q' : Exit → Act → World → Prop) : Prop :=
  ∀ x G' σ' a' w', Inv G' n σ' a' w' → Pres G₀ w₀ G' w' → Q x σ' → Q' x a' w'

theorem cwp_sound (hD : DrawOK P n) : ∀ (ic : IC) (c : Code) (G₀ : Gh) (w₀ : World) (Q : Exit → St → Prop) (Q' : Exit → Act → World → Prop) (G : Gh) (σ : St) (a : Act) (w : World),
    chk P n c ic = true → Rel n G₀ w₀ Q Q' → Inv G n σ a w → Pres G₀ w₀ G w → cwp P ic Q σ → c.wp P Q' a w
  | .skip, c, G₀, w₀, Q, Q', G, σ, a, w, hc, hr, h, hp, hw => by
    cases c <;> first | (simp [chk] at hc; done) | skip
    exact wp_skip (hr _ G σ a w h hp hw)
  | .reg q iops live, c, G₀, w₀, Q, Q', G, σ, a, w, hc, hr, h, hp, hw => by
    cases c <;> first | (simp [chk] at hc; done) | skip
    rename_i id ops draw
    simp only [chk, Bool.and_eq_true] at hc
    have hn : ∀ G' σ' a' w', Inv G' n σ' a' w' → Pres G₀ w₀ G' w' → regK live Q σ' → Q' .normal a' w' := fun G' σ' a' w' h1 h2 h3 => hr _ G' _ a' w' (h1.keep live) h2 h3
    cases q with
    | none =>
      have hdr : draw = false := by simpa using hc.2
      subst hdr
      exact wp_region_list (swp_sound G₀ w₀ hn ops.toList iops G σ a w hc.1 h hp hw)
    | some q =>
      have hdr : draw = true → chkDr ops q iops = true := fun hd => by
        have := hc.2
        rw [hd] at this
        simpa using this
      exact hD draw id ops iops q G σ a w _ Q' hc.1 hdr h hw fun G' σ' a' w' h1 h2 h3 => hn G' σ' a' w' h1 (hp.trans h2) h3
  | .seq x y, c, G₀, w₀, Q, Q', G, σ, a, w, hc, hr, h, hp, hw => by
    cases c <;> first | (simp [chk] at hc; done) | skip
    rename_i c1 c2
    simp only [chk, Bool.and_eq_true] at hc
    refine wp_seq (cwp_sound hD x c1 G₀ w₀ (seqK P y Q) _ G σ a w hc.1 ?_ h hp ?_)
    · intro e G' σ' a' w' h1 h2 h3
      cases e with
      | normal => exact cwp_sound hD y c2 G₀ w₀ Q Q' G' σ' a' w' hc.2 hr h1 h2 h3
      | _ => exact hr _ G' σ' a' w' h1 h2 h3
    · have : (fun x τ => match x with | .normal => cwp P y Q τ | x => Q x τ) = seqK P y Q := by
        funext e τ; cases e <;> rfl
      have hw' : cwp P x (fun x τ => match x with | .normal => cwp P y Q τ | x => Q x τ) σ := hw
      rw [this] at hw'
      exact hw'
  | .cond cx x y, c, G₀, w₀, Q, Q', G, σ, a, w, hc, hr, h, hp, hw => by
    cases c <;> first | (simp [chk] at hc; done) | skip
    rename_i o c1 c2
    simp only [chk, Bool.and_eq_true] at hc
    obtain ⟨⟨hx, h1⟩, h2⟩ := hc
    have hb := XR.of_inv h hx
    have hw' : condW P x y Q σ (σ.x cx) := by
      have : cwp P (.cond cx x y) Q σ = condW P x y Q σ (σ.x cx) := by
        show (match σ.x cx with | .bool v => (v = true → cwp P x Q σ) ∧ (v = false → cwp P y Q σ) | _ => False) = _
        cases σ.x cx <;> rfl
      rw [← this]; exact hw
    generalize σ.x cx = xv at hb hw'
    cases xv <;> try exact hw'.elim
    rename_i v
    have hv := VR.inv_bool hb
    exact wp_cond_split hv (fun hv => cwp_sound hD x c1 G₀ w₀ Q Q' G σ a w h1 hr h hp (hw'.1 hv)) (fun hv => cwp_sound hD y c2 G₀ w₀ Q Q' G σ a w h2 hr h hp (hw'.2 hv))
  | .block id x, c, G₀, w₀, Q, Q', G, σ, a, w, hc, hr, h, hp, hw => by
    cases c <;> first | (simp [chk] at hc; done) | skip
    rename_i id' c1
    simp only [chk, Bool.and_eq_true, beq_iff_eq] at hc
    obtain ⟨rfl, hc⟩ := hc
    refine wp_block (cwp_sound hD x c1 G₀ w₀ (blkK id' Q) _ G σ a w hc ?_ h hp hw)
    intro e G' σ' a' w' h1 h2 h3
    cases e with
    | exit i =>
      have h3' : (bif i == id' then Q .normal σ' else Q (.exit i) σ') := h3
      by_cases hi : i = id'
      · have : (i == id') = true := by simpa using hi
        rw [this] at h3'
        simpa [Exit.inBlock, hi] using hr _ G' σ' a' w' h1 h2 h3'
      · have : (i == id') = false := by simpa using hi
        rw [this] at h3'
        simpa [Exit.inBlock, hi] using hr _ G' σ' a' w' h1 h2 h3'
    | _ => exact hr _ G' σ' a' w' h1 h2 h3
  | .loop live x, c, G₀, w₀, Q, Q', G, σ, a, w, hc, hr, h, hp, hw => by
    cases c <;> first | (simp [chk] at hc; done) | skip
    rename_i c1
    simp only [chk] at hc
    obtain ⟨I, μ, h0, hI⟩ := hw
    have key : ∀ (m : Nat) (G : Gh) (σ : St) (a : Act) (w : World), Inv G n σ a w → Pres G₀ w₀ G w → I σ → μ σ < m → Code.rounds P c1 Q' m a w := by
      intro m
      induction m with
      | zero => intro G σ a w _ _ _ hm; omega
      | succ m ih =>
        intro G σ a w h hp hi hm
        rw [rounds_succ]
        refine cwp_sound hD x c1 G₀ w₀ (loopK live I μ (μ σ) Q) _ G σ a w hc ?_ h hp (hI σ hi)
        intro e G' σ' a' w' h1 h2 h3
        cases e with
        | normal => exact ih G' _ a' w' (h1.keepV live) h2 h3.1 (by have := h3.2; omega)
        | _ => exact hr _ G' σ' a' w' h1 h2 h3
    exact wp_loop_rounds (μ (σ.keepV live) + 1) (key _ G _ a w (h.keepV live) hp h0 (by omega))
  | .join live x y, c, G₀, w₀, Q, Q', G, σ, a, w, hc, hr, h, hp, hw => by
    cases c <;> first | (simp [chk] at hc; done) | skip
    rename_i c1 c2
    simp only [chk, Bool.and_eq_true] at hc
    obtain ⟨J, h0, hJ⟩ := hw
    refine wp_seq (cwp_sound hD x c1 G₀ w₀ (joinK live J Q) _ G σ a w hc.1 ?_ h hp h0)
    intro e G' σ' a' w' h1 h2 h3
    cases e with
    | normal => exact cwp_sound hD y c2 G₀ w₀ Q Q' G' _ a' w' hc.2 hr (h1.keepV live) h2 (hJ _ h3)
    | _ => exact hr _ G' σ' a' w' h1 h2 h3
  | .exit id, c, G₀, w₀, Q, Q', G, σ, a, w, hc, hr, h, hp, hw => by
    cases c <;> first | (simp [chk] at hc; done) | skip
    simp only [chk, beq_iff_eq] at hc
    subst hc
    exact wp_exit (hr _ G σ a w h hp hw)
  | .scope x, c, G₀, w₀, Q, Q', G, σ, a, w, hc, hr, h, hp, hw => by
    cases c <;> first | (simp [chk] at hc; done) | skip
    rename_i c1
    simp only [chk] at hc
    have hw' : cwp P x (scopeK Q) σ := by
      have : (fun x τ => match x with | .goto _ => False | x => Q x τ) = scopeK Q := by
        funext e τ; cases e <;> rfl
      have hw' : cwp P x (fun x τ => match x with | .goto _ => False | x => Q x τ) σ := hw
      rw [this] at hw'
      exact hw'
    refine wp_scope_straight (cwp_sound hD x c1 G₀ w₀ (scopeK Q) _ G σ a w hc ?_ h hp hw')
    intro e G' σ' a' w' h1 h2 h3
    cases e with
    | goto l => exact h3
    | _ => exact hr _ G' σ' a' w' h1 h2 h3
  | .label l, c, G₀, w₀, Q, Q', G, σ, a, w, hc, hr, h, hp, hw => by
    cases c <;> first | (simp [chk] at hc; done) | skip
    exact wp_label (hr _ G σ a w h hp hw)
  | .goto l, c, G₀, w₀, Q, Q', G, σ, a, w, hc, hr, h, hp, hw => by
    cases c <;> first | (simp [chk] at hc; done) | skip
    simp only [chk, beq_iff_eq] at hc
    subst hc
    exact wp_goto (hr _ G σ a w h hp hw)
  | .ret, c, G₀, w₀, Q, Q', G, σ, a, w, hc, hr, h, hp, hw => by
    cases c <;> first | (simp [chk] at hc; done) | skip
    exact wp_ret (hr _ G σ a w h hp hw)
end
end Go.AB
