/- The abstract layer, part 4: laws on relations. -/
import Derived.Test.YtbinmjafmcaehaaAb3
namespace Go.AB
open Go

theorem VR.mono {w w' : World} {R R' : Nat → Nat} (hR : ∀ b, R b ≤ R' b) (hs : ∀ b k, k < R b → w'.cell? ⟨b, k, none⟩ = w.cell? ⟨b, k, none⟩) {a : AV} {v : Value} (h : VR w R a v) : VR w' R' a v := by
  induction h with
  | undef v => exact .undef v
  | bool b => exact .bool b
  | int k n => exact .int k n
  | str s => exact .str s
  | nilp => exact .nilp
  | ref b off => exact .ref b off
  | sp cs b off u hf hR' hc _ ih =>
    refine .sp cs b off u hf (Nat.le_trans hR' (hR b)) (fun j c hj => ?_) ih
    rw [hs b (off + j) (by have := (List.getElem?_eq_some_iff.1 hj).1; omega)]
    exact hc j c hj
  | slnil own sz => exact .slnil own sz
  | sl own sz n cs b off cap u hf hl hR' hcap hc _ ih =>
    refine .sl own sz n cs b off cap u hf hl (Nat.le_trans hR' (hR b)) hcap (fun j c hj => ?_) ih
    rw [hs b (off + j) (by have := (List.getElem?_eq_some_iff.1 hj).1; omega)]
    exact hc j c hj
  | arr b off len cap => exact .arr b off len cap
  | agg cs vs hf hl _ ih => exact .agg cs vs hf hl ih
  | tup cs vs hl _ ih => exact .tup cs vs hl ih
  | fn f first caps vf vc hl _ hl' _ ih ih' => exact .fn f first caps vf vc hl ih hl' ih'
  | nilf => exact .nilf
  | mp b => exact .mp b
  | nilm => exact .nilm
  | when b a v _ ih => exact .when b a v ih

theorem Pres.R {G G' : Gh} {w w' : World} (h : Pres G w G' w') (hg : GoodW G w) : ∀ b, G.R b ≤ G'.R b := fun b => by
  rcases Nat.lt_or_ge b w.heap.size with hb | hb
  · exact h.mono b hb
  · rw [hg.newR b hb]; exact Nat.zero_le _

theorem Pres.cells {G G' : Gh} {w w' : World} (h : Pres G w G' w') (hg : GoodW G w) : ∀ b k, k < G.R b → w'.cell? ⟨b, k, none⟩ = w.cell? ⟨b, k, none⟩ := fun b k hk => by
  rcases Nat.lt_or_ge b w.heap.size with hb | hb
  · exact h.stable b k hb hk
  · rw [hg.newR b hb] at hk; omega

theorem Pres.vr {G G' : Gh} {w w' : World} (h : Pres G w G' w') (hg : GoodW G w) {a : AV} {v : Value} (hv : VR w G.R a v) : VR w' G'.R a v := hv.mono (h.R hg) (h.cells hg)

theorem Pres.refl (G : Gh) (w : World) : Pres G w G w := ⟨rfl, rfl, rfl, Nat.le_refl _, fun _ _ => Nat.le_refl _, fun _ _ _ _ => rfl, fun _ _ _ => rfl, fun _ _ h => ⟨h, rfl⟩, fun _ _ h => ⟨h, rfl⟩⟩

theorem Pres.trans {G₁ G₂ G₃ : Gh} {w₁ w₂ w₃ : World} (h : Pres G₁ w₁ G₂ w₂) (k : Pres G₂ w₂ G₃ w₃) : Pres G₁ w₁ G₃ w₃ where
  os := k.os.trans h.os
  tape := k.tape.trans h.tape
  output := k.output.trans h.output
  size := Nat.le_trans h.size k.size
  mono := fun b hb => Nat.le_trans (h.mono b hb) (k.mono b (Nat.lt_of_lt_of_le hb h.size))
  stable := fun b j hb hj => (k.stable b j (Nat.lt_of_lt_of_le hb h.size) (Nat.lt_of_lt_of_le hj (h.mono b hb))).trans (h.stable b j hb hj)
  frame := fun b hb ho => by
    refine (k.frame b (Nat.lt_of_lt_of_le hb h.size) ?_).trans (h.frame b hb ho)
    rcases ho with ho | ho
    · exact .inl (h.frameO b hb ho).1
    · exact .inr (h.noneO b hb ho).1
  frameO := fun b hb ho =>
    let ⟨o2, r2⟩ := h.frameO b hb ho
    let ⟨o3, r3⟩ := k.frameO b (Nat.lt_of_lt_of_le hb h.size) o2
    ⟨o3, r3.trans r2⟩
  noneO := fun b hb ho =>
    let ⟨o2, r2⟩ := h.noneO b hb ho
    let ⟨o3, r3⟩ := k.noneO b (Nat.lt_of_lt_of_le hb h.size) o2
    ⟨o3, r3.trans r2⟩

theorem OwnR.mono {G G' : Gh} {w w' : World} {o : Owner} {a : AV} {v : Value} (h : OwnR G w o a v) (hb : ∀ b, G.O b = o → G'.O b = o ∧ G'.R b = G.R b ∧ w'.heap[b]? = w.heap[b]?) : OwnR G' w' o a v := by
  unfold OwnR at *
  split
  · rename_i sz n cs
    intro base m cap hv hc
    obtain ⟨b, off, c, e, fz, h1, h2, h3, h4, h5, h6⟩ := h base m cap hv hc
    obtain ⟨k1, k2, k3⟩ := hb b h2
    exact ⟨b, off, c, e, fz, h1, k1, by rw [k2, h3], by rw [k3, h4], h5, h6⟩
  · trivial

theorem Fl.views {cs : List AV} (h : Fl cs) : Fl (views cs) := by
  intro c hc
  simp only [AB.views, List.mem_map] at hc
  obtain ⟨c', h1, rfl⟩ := hc
  have := h c' h1
  cases c' <;> simp_all [flatV, isV, AB.view]

theorem Fl.sub {cs : List AV} (h : Fl cs) (off n : Nat) : Fl (sub cs off n) := fun c hc => h c (List.mem_of_mem_drop (List.mem_of_mem_take hc))
theorem Fl.drop {cs : List AV} (h : Fl cs) (off : Nat) : Fl (cs.drop off) := fun c hc => h c (List.mem_of_mem_drop hc)
theorem Fl.nil : Fl [] := fun c hc => by simp at hc

theorem OwnR.view (G : Gh) (w : World) (o : Owner) (a : AV) (v : Value) : OwnR G w o (view a) v := by
  cases a <;> first | trivial | (rename_i own sz n cs; simp [AB.view, OwnR])

theorem VR.view {w : World} {R : Nat → Nat} {a : AV} {v : Value} (h : VR w R a v) : VR w R (view a) v := by
  cases h with
  | slnil own sz => exact .slnil false sz
  | sl own sz n cs b off cap u hf hl hR hcap hc hr => exact .sl false sz n cs b off cap u hf hl hR hcap hc hr
  | undef v => exact .undef v
  | bool b => exact .bool b
  | int k n => exact .int k n
  | str s => exact .str s
  | nilp => exact .nilp
  | ref b off => exact .ref b off
  | sp cs b off u hf hR hc hr => exact .sp cs b off u hf hR hc hr
  | arr b off len cap => exact .arr b off len cap
  | agg cs vs hf hl hr => exact .agg cs vs hf hl hr
  | tup cs vs hl hr => exact .tup cs vs hl hr
  | fn f first caps vf vc hl hr hl' hr' => exact .fn f first caps vf vc hl hr hl' hr'
  | nilf => exact .nilf
  | mp b => exact .mp b
  | nilm => exact .nilm
  | when b a v h => exact .when b a v h

theorem CellsR.mono {G G' : Gh} {w w' : World} {o : Nat → Owner} {cs : List AV} {c : Array Value} (h : CellsR G w o cs c) (hv : ∀ a v, VR w G.R a v → VR w' G'.R a v)
    (hb : ∀ b j, G.O b = o j → G'.O b = o j ∧ G'.R b = G.R b ∧ w'.heap[b]? = w.heap[b]?) : CellsR G' w' o cs c :=
  ⟨h.1, fun j x y hx hy => ⟨hv _ _ (h.2 j x y hx hy).1, (h.2 j x y hx hy).2.mono fun b => hb b j⟩⟩

/-- A value that is one: what `isV` says. -/
theorem ValS.of_isV {G : Gh} {w : World} {e : List (Nat × AV)} {tmps : Array Value} {i : Nat} {a : AV} {v : Value} (h : isV a = true) : ValS G w e tmps i a v ↔ (VR w G.R a v ∧ OwnR G w (.slot i 0) a v) := by
  cases a <;> simp_all [isV, ValS]

theorem ValS.mk_view {G : Gh} {w : World} {e : List (Nat × AV)} {tmps : Array Value} {i : Nat} {a : AV} {v : Value} (h : isV a = true) (hv : VR w G.R a v) : ValS G w e tmps i (view a) v := by
  have h' : isV (view a) = true := by cases a <;> simp_all [isV, view]
  rw [ValS.of_isV h']
  exact ⟨hv.view, OwnR.view ..⟩

theorem ValS.vr {G : Gh} {w : World} {e : List (Nat × AV)} {tmps : Array Value} {i : Nat} {a : AV} {v : Value} (h : isV a = true) (hs : ValS G w e tmps i a v) : VR w G.R a v := ((ValS.of_isV h).1 hs).1

/-- Only the frame has turned at slots that this value does not speak of. -/
theorem ValS.frame {G G' : Gh} {w w' : World} {e e' : List (Nat × AV)} {tmps tmps' : Array Value} {i : Nat}
    (hv : ∀ a v, VR w G.R a v → VR w' G'.R a v)
    (hown : ∀ b, (∃ j, G.O b = .slot i j) ∨ G.O b = .loc i → G'.O b = G.O b ∧ G'.R b = G.R b ∧ w'.heap[b]? = w.heap[b]?)
    (hcell : ∀ b c j, G.O b = .loc i → G.O c = .cell b j → G'.O c = .cell b j ∧ G'.R c = G.R c ∧ w'.heap[c]? = w.heap[c]?) :
    ∀ (a : AV) (v : Value) (_ : ∀ d, holdsLp a d → ∀ cs, look e' d = .loc cs → ∃ cs', look e d = .loc cs' ∧ tmps'[d]? = tmps[d]?)
      (_ : ValS G w e tmps i a v), ValS G' w' e' tmps' i a v
  | .loc cs, v, _, h => by
    obtain ⟨b, c, t, h1, h2, h3, h4, h5, h6⟩ := h
    obtain ⟨k1, k2, k3⟩ := hown b (.inr h2)
    exact ⟨b, c, t, h1, k1.trans h2, k2.trans h3, k3.trans h4, h5.mono hv fun c j hc => hcell b c j h2 hc, h6⟩
  | .lp d off, v, hlp, h => by
    obtain ⟨b, h3, h4⟩ := h
    refine ⟨b, h3, fun cs hcs => ?_⟩
    obtain ⟨cs', h1, h2⟩ := hlp d rfl cs hcs
    exact h2.trans (h4 cs' h1)
  | .tup vs, v, _, h => by
    obtain ⟨ys, h1, h2⟩ := h
    exact ⟨ys, h1, h2.mono hv fun b j hb => by
      obtain ⟨k1, k2, k3⟩ := hown b (.inl ⟨_, hb⟩)
      exact ⟨k1.trans hb, k2, k3⟩⟩
  | .when b a, v, hlp, h => ⟨fun hb => ValS.frame hv hown hcell a v hlp (h.1 hb), h.2⟩
  | .undef, v, _, h | .bool _, v, _, h | .int _ _, v, _, h | .str _, v, _, h | .nilp, v, _, h | .ref _ _, v, _, h | .sp _, v, _, h | .sl _ _ _ _, v, _, h | .arr _ _ _ _, v, _, h | .agg _, v, _, h
  | .fn _ _ _, v, _, h | .nilf, v, _, h | .mp _, v, _, h | .nilm, v, _, h => by
    refine ⟨hv _ _ h.1, h.2.mono fun b hb => ?_⟩
    obtain ⟨k1, k2, k3⟩ := hown b (.inl ⟨_, hb⟩)
    exact ⟨k1.trans hb, k2, k3⟩

theorem look_cons (j i : Nat) (a : AV) (l : List (Nat × AV)) : look ((j, a) :: l) i = if j = i then a else look l i := by
  show (bif j == i then a else look l i) = _
  by_cases h : j = i
  · simp [h]
  · have : (j == i) = false := by simpa using h
    simp [this, h]

/-- A new value in a slot. -/
theorem Inv.put {G G' : Gh} {n : Nat} {σ : St} {s' : Store} {lp' : List (Nat × Nat)} {a : Act} {w w' : World} (h : Inv G n σ a w) (d : Option Nat) (hd : ∀ i, d = some i → i < n) (av : AV) (v : Value)
    (hgood : GoodW G' w') (hpres : Pres G w G' w') (hst : StoreR G' w' s')
    (hlp : ∀ x ∈ σ.lp, x ∈ lp') (hlpn : ∀ i t, d = some i → holdsLp av t → (i, t) ∈ lp')
    (hfree : ∀ i t, d = some i → (∃ cs, av = .loc cs) → (t, i) ∉ σ.lp)
    (hown : ∀ i b, d ≠ some i → (∃ j, G.O b = .slot i j) ∨ G.O b = .loc i → G'.O b = G.O b ∧ G'.R b = G.R b ∧ w'.heap[b]? = w.heap[b]?)
    (hcell : ∀ i b c j, d ≠ some i → G.O b = .loc i → G.O c = .cell b j → G'.O c = .cell b j ∧ G'.R c = G.R c ∧ w'.heap[c]? = w.heap[c]?)
    (hnew : ∀ i, d = some i → ValS G' w' ((σ.put d av).e) (a.put d v).tmps i av v) :
    Inv G' n { (σ.put d av) with s := s', lp := lp' } (a.put d v) w' := by
  cases d with
  | none =>
    refine ⟨hgood, hst, h.size, fun i u hu => ?_, h.dom, fun i t ht => hlp _ (h.lps i t ht), h.def0⟩
    exact ValS.frame (fun _ _ hv => hpres.vr h.good hv) (fun b => hown i b (by simp)) (fun b c j => hcell i b c j (by simp)) _ _ (fun t _ cs hcs => ⟨cs, hcs, rfl⟩) (h.slots i u hu)
  | some d =>
    refine ⟨hgood, hst, by simp [Act.put, h.size], fun i u hu => ?_, fun i hi => ?_, fun i t ht => ?_, h.def0⟩
    · by_cases hid : d = i
      · subst hid
        have hu' : u = v := by
          have hlt : d < a.tmps.size := by rw [h.size]; exact hd d rfl
          simp [Act.put, hlt] at hu
          exact hu.symm
        subst hu'
        have : look (σ.put (some d) av).e d = av := by simp [St.put, look_cons]
        show ValS G' w' (σ.put (some d) av).e _ d (look (σ.put (some d) av).e d) u
        rw [this]
        exact hnew d rfl
      · have hne : (some d : Option Nat) ≠ some i := fun e => hid (Option.some.inj e)
        have hu' : a.tmps[i]? = some u := by simpa [Act.put, Array.getElem?_setIfInBounds_ne hid] using hu
        have : look (σ.put (some d) av).e i = look σ.e i := by simp [St.put, look_cons, hid]
        show ValS G' w' (σ.put (some d) av).e _ i (look (σ.put (some d) av).e i) u
        rw [this]
        refine ValS.frame (fun _ _ hv => hpres.vr h.good hv) (fun b => hown i b hne) (fun b c j => hcell i b c j hne) _ _ (fun t ht cs hcs => ?_) (h.slots i u hu')
        have hmem := h.lps i t ht
        by_cases hdt : d = t
        · subst hdt
          simp only [St.put, look_cons, if_true] at hcs
          exact absurd hmem (hfree d i rfl ⟨cs, hcs⟩)
        · refine ⟨cs, by simpa [St.put, look_cons, hdt] using hcs, ?_⟩
          simp [Act.put, Array.getElem?_setIfInBounds_ne hdt]
    · have : d ≠ i := by have := hd d rfl; omega
      simp [St.put, look_cons, this, h.dom i hi]
    · by_cases hid : d = i
      · subst hid
        simp only [St.put, look_cons, if_true] at ht
        exact hlpn d t rfl ht
      · simp only [St.put, look_cons, hid, if_false] at ht
        exact hlp _ (h.lps i t ht)

end Go.AB
