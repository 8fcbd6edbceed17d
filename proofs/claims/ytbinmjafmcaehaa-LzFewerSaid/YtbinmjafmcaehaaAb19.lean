/- The abstract layer, part 19: regions that draw their order. -/
import Derived.Test.YtbinmjafmcaehaaAb18
namespace Go.AB
open Go

theorem argsV_congr {f f' : IX → AV} : ∀ (xs : List IX), (∀ x ∈ xs, f x = f' x) → argsV f xs = argsV f' xs
  | [], _ => rfl
  | x :: xs, h => by
    show argC (f x) (argsV f xs) = argC (f' x) (argsV f' xs)
    rw [h x List.mem_cons_self, argsV_congr xs fun y hy => h y (List.mem_cons_of_mem _ hy)]

theorem fill_congr {f f' : IX → AV} : ∀ (ps : List (Nat × Nat × IX)) (cs : List AV), (∀ x ∈ ps.map (fun p => p.2.2), f x = f' x) → fill f cs ps = fill f' cs ps
  | [], _, _ => rfl
  | (off, n, x) :: ps, cs, h => by
    have h1 : f x = f' x := h x (by simp)
    have ih : ∀ cs, fill f cs ps = fill f' cs ps := fun cs => fill_congr ps cs fun y hy => h y (by simp only [List.map_cons, List.mem_cons]; exact .inr hy)
    unfold fill
    rw [h1]
    simp only [ih]

theorem ixV_congr {f f' : IX → AV} (o : Option IX) (d : Int) (h : ∀ x ∈ oX o, f x = f' x) : ixV f o d = ixV f' o d := by
  cases o with
  | none => rfl
  | some x => simp only [ixV, h x (by simp [oX])]

theorem pv_congr {o : IOp} {f f' : IX → AV} {σ σ' : St} (h : ∀ x ∈ opIX o, f x = f' x) (hx : ∀ x ∈ opIX o, σ.x x = σ'.x x) (hs : σ.s = σ'.s) (hrd : ∀ p n, rd σ p n = rd σ' p n) : pv o f σ = pv o f' σ' := by
  cases o <;> (try rfl)
  case mov tr x => cases tr <;> first | rfl | (show movV (f x) = movV (f' x); rw [h x (by simp [opIX])])
  case pick c x y => show pickV (σ.x x) (σ.x y) (f c) = pickV (σ'.x x) (σ'.x y) (f' c); rw [h c (by simp [opIX]), hx x (by simp [opIX]), hx y (by simp [opIX])]
  case build z ps => show buildV (fill f z ps) = buildV (fill f' z ps); rw [fill_congr ps z h]
  case load n m x => show loadV m (rd σ (f x) n) = loadV m (rd σ' (f' x) n); rw [h x (by simp [opIX]), hrd]
  case loadR z m x => show loadP z m σ.s (f x) = loadP z m σ'.s (f' x); rw [h x (by simp [opIX]), hs]
  case cvtStr x => show cvtStrV (f x) = cvtStrV (f' x); rw [h x (by simp [opIX])]
  case nilCheck x => show nilCheckV (f x) = nilCheckV (f' x); rw [h x (by simp [opIX])]
  case bin b x y => show binV b (f x) (f y) = binV b (f' x) (f' y); rw [h x (by simp [opIX]), h y (by simp [opIX])]
  case eqB b x y => show eqBV b (f x) (f y) = eqBV b (f' x) (f' y); rw [h x (by simp [opIX]), h y (by simp [opIX])]
  case eqP b x y => show eqPV b (f x) (f y) = eqPV b (f' x) (f' y); rw [h x (by simp [opIX]), h y (by simp [opIX])]
  case eqS b x y => unfold pv; split <;> simp_all [opIX]
  case un u x => show unV u (f x) = unV u (f' x); rw [h x (by simp [opIX])]
  case cvtInt k x => show cvtIntV k (f x) = cvtIntV k (f' x); rw [h x (by simp [opIX])]
  case cvtId x => show cvtIdV (f x) = cvtIdV (f' x); rw [h x (by simp [opIX])]
  case field n m off x => show fieldV n m off (f x) = fieldV n m off (f' x); rw [h x (by simp [opIX])]
  case index n m l x i => show indexV n m l (f x) (f i) = indexV n m l (f' x) (f' i); rw [h x (by simp [opIX]), h i (by simp [opIX])]
  case sindex x i => show sindexV (f x) (f i) = sindexV (f' x) (f' i); rw [h x (by simp [opIX]), h i (by simp [opIX])]
  case fieldAddr off x => show fieldAddrV off x (f x) = fieldAddrV off x (f' x); rw [h x (by simp [opIX])]
  case indexAddr sz x i => show indexAddrV sz (f x) (f i) = indexAddrV sz (f' x) (f' i); rw [h x (by simp [opIX]), h i (by simp [opIX])]
  case aindexAddr sz l x i => show aindexAddrV sz l x (f x) (f i) = aindexAddrV sz l x (f' x) (f' i); rw [h x (by simp [opIX]), h i (by simp [opIX])]
  case slice sz x lo hi mx =>
    cases mx with
    | some m => rfl
    | none =>
      have e1 := ixV_congr (f := f) (f' := f') lo 0 fun y hy => h y (by simp [opIX, hy])
      have e2 := fun d => ixV_congr (f := f) (f' := f') hi d fun y hy => h y (by simp [opIX, hy])
      show sliceV sz f lo hi (f x) = sliceV sz f' lo hi (f' x)
      rw [h x (by simp [opIX])]
      unfold sliceV
      simp only [e1, e2]
  case sslice x lo hi =>
    have e1 := ixV_congr (f := f) (f' := f') lo 0 fun y hy => h y (by simp [opIX, hy])
    have e2 := fun d => ixV_congr (f := f) (f' := f') hi d fun y hy => h y (by simp [opIX, hy])
    show sliceStrV f lo hi (f x) = sliceStrV f' lo hi (f' x)
    rw [h x (by simp [opIX])]
    unfold sliceStrV
    simp only [e1, e2]
  case extract x k => show extractV k (f x) = extractV k (f' x); rw [h x (by simp [opIX])]
  case len c x => show lenV σ.s c (f x) = lenV σ'.s c (f' x); rw [h x (by simp [opIX]), hs]
  case minmax m xs =>
    show minmaxV m (xs.map f) = minmaxV m (xs.map f')
    rw [show xs.map f = xs.map f' from List.map_congr_left h]
  case makeFn fi xs ys =>
    show makeFnV fi (argsV f xs) (argsV f ys) = makeFnV fi (argsV f' xs) (argsV f' ys)
    rw [argsV_congr xs fun x hx => h x (by simp [opIX, hx]), argsV_congr ys fun x hx => h x (by simp [opIX, hx])]

def dr (o : IOper) (σ : St) : St := match o.op with
  | .mov true x => σ.drain x
  | _ => σ
def step (σ : St) (o : IOper) (v : AV) : St := (lpReg (dr o σ) v o.dst).put o.dst v

theorem dr_qv {o : IOper} {σ : St} (h : qv o σ ≠ .no) : dr o σ = σ := by
  obtain ⟨d, op, g⟩ := o
  unfold dr
  split
  · rename_i x hop
    simp only at hop
    subst hop
    refine absurd ?_ h
    cases g with
    | none => rfl
    | some tw =>
      obtain ⟨t, want⟩ := tw
      show qvG (.mov true x) want σ (look σ.e t) = .no
      cases look σ.e t <;> rfl
  · rfl

/-- What an operation comes to that may come up in any order. -/
inductive Y (P : Program) (σ : St) : IOper → AV → Prop where
  | pure (o : IOper) (v : AV) (h : (qv o σ = .tot v ∨ ∃ c, qv o σ = .prt c v ∧ c)) : Y P σ o v
  | mov (d : Option Nat) (x : IX) (h : isV (σ.x x) = true) : Y P σ ⟨d, .mov true x, none⟩ (σ.x x)
  | call (d : Option Nat) (f : Nat) (args : List IX) (as rs : List AV) (h1 : argsV (xg true σ) args = some as) (h2 : rsOK rs = true) (h3 : FE P f as σ.s rs σ.s) : Y P σ ⟨d, .call f args, none⟩ (retV rs)
  | callG (d : Option Nat) (f : Nat) (args : List IX) (t : Nat) (want b : Bool) (rs : List AV) (h0 : look σ.e t = .bool b) (h2 : rsOK rs = true)
      (h1 : (b == want) = true → ∃ as, argsV (xg true σ) args = some as ∧ FE P f as σ.s rs σ.s) : Y P σ ⟨d, .call f args, some (t, want)⟩ (.when (b == want) (retV rs))
  | eff (o : IOper) (v : AV) (h : (qeO o σ = .tot v ∨ ∃ c, qeO o σ = .prt c v ∧ c)) : Y P σ o v

theorem plainV_facts {v : AV} (h : plainV v = true) : notLoc v = true ∧ (∀ t, ¬ holdsLp v t) ∧ (∀ τ d, lpReg τ v d = τ) := by
  cases v <;> first | (simp [plainV, isV] at h; done) | exact ⟨rfl, fun t h => h, fun τ d => by cases d <;> rfl⟩

theorem qe_plain {f : IX → AV} {s : Store} {o : IOp} {v : AV} (h : qe f s o = .tot v ∨ ∃ c, qe f s o = .prt c v) : plainV v = true ∧ (∀ g τ, pv o g τ = .no) ∧ (∀ x, o ≠ .mov true x) := by
  have tt : ∀ {r : PR} {u : AV}, r = .tot u → (r = .tot v ∨ ∃ c, r = .prt c v) → v = u := by
    intro r u hr h
    subst hr
    rcases h with h | ⟨c, h⟩
    · injection h with h; exact h.symm
    · cases h
  have tp : ∀ {r : PR} {u : AV} {c : Prop}, r = .prt c u → (r = .tot v ∨ ∃ c, r = .prt c v) → v = u := by
    intro r u c hr h
    subst hr
    rcases h with h | ⟨c', h⟩
    · cases h
    · injection h with _ h; exact h.symm
  have tn : ∀ {r : PR}, r = .no → ¬ (r = .tot v ∨ ∃ c, r = .prt c v) := by
    intro r hr h
    subst hr
    rcases h with h | ⟨c', h⟩ <;> cases h
  have ok : ∀ (k : Bool) (a : AV) (b : Bool), (k = false → isV a = true) → plainV (okV k a b) = true := by
    intro k a b ha
    cases k with
    | true => rfl
    | false => show plainV a = true; have := ha rfl; cases a <;> first | exact this | rfl
  unfold qe at h
  split at h
  · rename_i x
    refine ⟨?_, fun g τ => rfl, fun x h => by cases h⟩
    cases hx : f x <;> rw [hx] at h <;> first | (exact absurd h (tn rfl)) | (rw [tt rfl h]; rfl)
  · rename_i sz n z ps
    refine ⟨?_, fun g τ => rfl, fun x h => by cases h⟩
    cases hx : fill f z ps <;> rw [hx] at h
    · exact absurd h (tn rfl)
    · rw [tp rfl h]; rfl
  · rename_i kk zero k x ky
    refine ⟨?_, fun g τ => rfl, fun x h => by cases h⟩
    have ck : ∀ {c : Prop} {a : AV} {b : Bool}, (ckL k c (okV k a b) = .tot v ∨ ∃ c', ckL k c (okV k a b) = .prt c' v) → plainV v = true := by
      intro c a b h
      unfold ckL at h
      cases hp : plainL k (okV k a b) with
      | false => rw [hp] at h; exact absurd h (tn rfl)
      | true =>
        rw [hp] at h
        rw [tp rfl h]
        refine ok k a b fun hk => ?_
        subst hk; exact hp
    have ck' : ∀ {c : Prop} {o : Option AV}, (ckL k c (lookV zero k o) = .tot v ∨ ∃ c', ckL k c (lookV zero k o) = .prt c' v) → plainV v = true := by
      intro c o h
      cases o with
      | none => exact ck h
      | some a => exact ck h
    unfold lookupV at h
    split at h
    · unfold lookupO at h
      split at h
      · exact ck' h
      · exact absurd h (tn rfl)
    · exact ck h
    · exact absurd h (tn rfl)
  · rename_i x
    refine ⟨?_, fun g τ => rfl, fun x h => by cases h⟩
    unfold rowV at h
    split at h
    · rw [tt rfl h]; rfl
    · exact absurd h (tn rfl)
  · rename_i x
    refine ⟨?_, fun g τ => rfl, fun x h => by cases h⟩
    unfold tupV at h
    split at h
    · rw [tt rfl h]; rfl
    · exact absurd h (tn rfl)
  · exact absurd h (tn rfl)

theorem qeO_v {o : IOper} {σ : St} {v : AV} (h : qeO o σ = .tot v ∨ ∃ c, qeO o σ = .prt c v ∧ c) :
    notLoc v = true ∧ (∀ t, ¬ holdsLp v t) ∧ (∀ τ d, lpReg τ v d = τ) ∧ dr o σ = σ := by
  obtain ⟨d, op, g⟩ := o
  have hdr : (∀ x, op ≠ .mov true x) → dr ⟨d, op, g⟩ σ = σ := by
    intro h
    unfold dr
    split
    · rename_i x hx; exact absurd hx (h x)
    · rfl
  have wk : ∀ {r : PR}, (r = .tot v ∨ ∃ c, r = .prt c v ∧ c) → (r = .tot v ∨ ∃ c, r = .prt c v) := fun h => h.imp id fun ⟨c, h, _⟩ => ⟨c, h⟩
  cases g with
  | none =>
    have h' : qe (xg true σ) σ.s op = .tot v ∨ ∃ c, qe (xg true σ) σ.s op = .prt c v := wk h
    obtain ⟨h1, _, h3⟩ := qe_plain h'
    obtain ⟨f1, f2, f3⟩ := plainV_facts h1
    exact ⟨f1, f2, f3, hdr h3⟩
  | some tw =>
    obtain ⟨t, want⟩ := tw
    have h' : qeG op want σ (look σ.e t) = .tot v ∨ ∃ c, qeG op want σ (look σ.e t) = .prt c v := wk h
    cases hl : look σ.e t <;> rw [hl] at h' <;> first | (rcases h' with h' | ⟨c, h'⟩ <;> cases h'; done) | skip
    rename_i b
    have h2 : wPR (b == want) (qe (xg (b == want) σ) σ.s op) = .tot v ∨ ∃ c, wPR (b == want) (qe (xg (b == want) σ) σ.s op) = .prt c v := h'
    have : ∃ u, v = .when (b == want) u ∧ (qe (xg (b == want) σ) σ.s op = .tot u ∨ ∃ c, qe (xg (b == want) σ) σ.s op = .prt c u) := by
      cases hq : qe (xg (b == want) σ) σ.s op with
      | tot u =>
        rw [hq] at h2
        refine ⟨u, ?_, .inl rfl⟩
        rcases h2 with h2 | ⟨c, h2⟩
        · injection h2 with h2; exact h2.symm
        · cases h2
      | prt c u =>
        rw [hq] at h2
        refine ⟨u, ?_, .inr ⟨c, rfl⟩⟩
        rcases h2 with h2 | ⟨c, h2⟩
        · cases h2
        · injection h2 with _ h2; exact h2.symm
      | no => rw [hq] at h2; rcases h2 with h2 | ⟨c, h2⟩ <;> cases h2
    obtain ⟨u, rfl, hu⟩ := this
    obtain ⟨h1, _, h3⟩ := qe_plain hu
    obtain ⟨f1, f2, f3⟩ := plainV_facts h1
    exact ⟨rfl, fun t ht => f2 t ht, fun τ d => f3 τ d, hdr h3⟩

section
variable {P : Program} {G G' : Gh} {n : Nat} {σ σ' : St} {a : Act} {w w' : World}

theorem retV_lp {rs : List AV} (h : rsOK rs = true) (σ : St) (d : Option Nat) : lpReg σ (retV rs) d = σ := by
  match rs, h with
  | [], _ => cases d <;> rfl
  | [r], h =>
    show lpReg σ r d = σ
    have hr : isV r = true := h
    cases r <;> first | (cases d <;> rfl) | (simp [isV] at hr)
  | _ :: _ :: _, _ => cases d <;> rfl

theorem isV_noLp {r : AV} (hr : isV r = true) (σ : St) (d : Option Nat) : lpReg σ r d = σ := by
  cases r <;> first | (cases d <;> rfl) | (simp [isV] at hr)

theorem retV_notLoc {rs : List AV} (h : rsOK rs = true) : notLoc (retV rs) = true := by
  match rs, h with
  | [], _ => rfl
  | [r], h =>
    show notLoc r = true
    have hr : isV r = true := h
    cases r <;> first | rfl | (simp [isV] at hr)
  | _ :: _ :: _, _ => rfl

theorem q1_inv {o : IOper} {K : St → Prop} (h : q1 P o σ K) : ∃ v, notLoc v = true ∧ Y P σ o v ∧ K (step σ o v) := by
  have gen : qK σ o.dst K (qv o σ) → ∃ v, notLoc v = true ∧ Y P σ o v ∧ K (step σ o v) := by
    intro hq
    cases hv : qv o σ with
    | tot v => rw [hv] at hq; exact ⟨v, hq.1, .pure o v (.inl hv), by unfold step; rw [dr_qv (by rw [hv]; simp)]; exact hq.2⟩
    | prt c v => rw [hv] at hq; exact ⟨v, hq.2.1, .pure o v (.inr ⟨c, hv, hq.1⟩), by unfold step; rw [dr_qv (by rw [hv]; simp)]; exact hq.2.2⟩
    | no => rw [hv] at hq; exact hq.elim
  have gene : ∀ {o : IOper}, qK σ o.dst K (qeO o σ) → ∃ v, notLoc v = true ∧ Y P σ o v ∧ K (step σ o v) := by
    intro o hq
    cases hv : qeO o σ with
    | tot v => rw [hv] at hq; exact ⟨v, hq.1, .eff o v (.inl hv), by unfold step; rw [(qeO_v (.inl hv)).2.2.2]; exact hq.2⟩
    | prt c v => rw [hv] at hq; exact ⟨v, hq.2.1, .eff o v (.inr ⟨c, hv, hq.1⟩), by unfold step; rw [(qeO_v (.inr ⟨c, hv, hq.1⟩)).2.2.2]; exact hq.2.2⟩
    | no => rw [hv] at hq; exact hq.elim
  unfold q1 at h
  split at h
  · rename_i d f args
    cases ha : argsV (xg true σ) args with
    | none => rw [ha] at h; exact h.elim
    | some as =>
      rw [ha] at h
      obtain ⟨rs, h2, h3, h4⟩ := h
      refine ⟨_, retV_notLoc h2, .call d f args as rs ha h2 h3, ?_⟩
      show K ((lpReg σ (retV rs) d).put d (retV rs))
      rw [retV_lp h2]; exact h4
  · rename_i d x
    obtain ⟨h1, h2⟩ := h
    refine ⟨_, ?_, .mov d x h1, ?_⟩
    · generalize σ.x x = av at h1
      cases av <;> first | rfl | (simp [isV] at h1)
    · show K ((lpReg (σ.drain x) (σ.x x) d).put d (σ.x x))
      rw [isV_noLp h1]; exact h2
  · rename_i d f args t want
    cases hl : look σ.e t <;> rw [hl] at h <;> try exact h.elim
    rename_i b
    obtain ⟨rs, h2, h3, h4⟩ := h
    refine ⟨_, rfl, .callG d f args t want b rs hl h2 (fun hb => by
      obtain ⟨as, q1, q2⟩ := h3 hb
      rw [hb] at q1
      exact ⟨as, q1, q2⟩), ?_⟩
    have : lpReg σ (.when (b == want) (retV rs)) d = σ := retV_lp h2 σ d
    show K ((lpReg σ (.when (b == want) (retV rs)) d).put d (.when (b == want) (retV rs)))
    rw [this]; exact h4
  · exact gene h
  · exact gene h
  · exact gene h
  · exact gene h
  · exact gene h
  · exact gen h
end
end Go.AB
