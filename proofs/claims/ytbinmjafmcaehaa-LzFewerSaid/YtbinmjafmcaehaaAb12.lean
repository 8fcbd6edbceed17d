/- The abstract layer, part 12: stores, slices that are made and grown. -/
import Derived.Test.YtbinmjafmcaehaaAb11
namespace Go.AB
open Go

section
variable {P : Program} {G G' : Gh} {n : Nat} {σ : St} {a : Act} {w w' : World}

theorem oneCell_of_flat {R : Nat → Nat} {c : AV} {v : Value} (hf : flatV c = true) (h : VR w R c v) : v.oneCell' = true := by
  cases h <;> first | rfl | (simp [flatV, isV] at hf)

/-- Cells laid one after another, where the block is written freely. -/
theorem run_storeCells_free (g o : Nat) (t : TypeId) (fz : Nat × Nat) : ∀ (vs : List Value) (i : Nat) (cur : Array Value) (w : World), w.heap[g]? = some (.cells cur t fz) → (∀ k, k < cur.size → ¬ (fz.1 ≤ k ∧ k < fz.2)) → o + i + vs.length ≤ cur.size → (∀ v ∈ vs, v.oneCell' = true) →
    (storeCells ⟨g, o, none⟩ vs i).run P w = .ok () (w.setRow g (cur.toList.take (o + i) ++ vs ++ cur.toList.drop (o + i + vs.length)).toArray)
  | [], i, cur, w, hg, _, _, _ => by
    simp only [storeCells, List.append_nil, List.length_nil, Nat.add_zero, List.take_append_drop, Array.toArray_toList]
    rw [setRow_self w g cur t fz hg]
    rfl
  | v :: rest, i, cur, w, hg, hfz, hl, h1 => by
    have hi : o + i < cur.size := by simp at hl; omega
    have hcell : w.cell? ⟨g, o + i, none⟩ = some cur[o + i] := by simp [World.cell?, hg, hi]
    have hfro : w.frozen? ⟨g, o + i, none⟩ = false := by
      have := hfz (o + i) hi
      obtain ⟨lo, hh⟩ := fz
      simp only [World.frozen?, hg]
      simp only at this
      by_cases h1 : lo ≤ o + i
      · have : ¬ (o + i < hh) := fun h2 => this ⟨h1, h2⟩
        simp [this]
      · simp [h1]
    have hst : (store ((⟨g, o, none⟩ : Addr).add i) v).run P w = .ok () (w.setRow g (cur.setIfInBounds (o + i) v)) := by
      rw [add_eq, run_store P w _ v _ (h1 v (by simp)), hcell]
      simp [hfro, setCell_eq_setRow w g (o + i) cur t fz v hg]
    have ih := run_storeCells_free g o t fz rest (i + 1) (cur.setIfInBounds (o + i) v) (w.setRow g (cur.setIfInBounds (o + i) v)) (setRow_heap w g cur _ t _ hg) (by simpa using hfz) (by simp at hl ⊢; omega) (fun x hx => h1 x (by simp [hx]))
    simp only [storeCells, Sem.run_bind, hst, Result.andThen_ok, ih, setRow_setRow]
    congr 3
    have e := list_seg_step cur.toList (o + i) v rest (by simp at hl ⊢; omega)
    simpa [Array.toList_setIfInBounds, Nat.add_assoc] using e

def laid (cur : Array Value) (o : Nat) (vs : List Value) : Array Value := (cur.toList.take o ++ vs ++ cur.toList.drop (o + vs.length)).toArray

theorem laid_size (cur : Array Value) (o : Nat) (vs : List Value) (h : o + vs.length ≤ cur.size) : (laid cur o vs).size = cur.size := by simp [laid]; omega

theorem laid_get (cur : Array Value) (o : Nat) (vs : List Value) (h : o + vs.length ≤ cur.size) (k : Nat) : (laid cur o vs)[k]? = if o ≤ k ∧ k < o + vs.length then vs[k - o]? else cur[k]? := by
  unfold laid
  simp only [List.getElem?_toArray]
  rw [List.append_assoc]
  by_cases h1 : k < o
  · rw [if_neg (by omega), List.getElem?_append_left (by simp; omega), List.getElem?_take, if_pos h1]; simp
  · have hl : (cur.toList.take o).length = o := by simp; omega
    rw [List.getElem?_append_right (by omega), hl]
    by_cases h2 : k < o + vs.length
    · rw [if_pos ⟨by omega, h2⟩, List.getElem?_append_left (by omega)]
    · rw [if_neg (by omega), List.getElem?_append_right (by omega), List.getElem?_drop]
      simp only [Array.getElem?_toList]
      congr 1
      omega

/-- The world after such a lay differs in that block alone. -/
theorem setRow_cell {g : Nat} {cur : Array Value} {t : TypeId} {fz : Nat × Nat} (hg : w.heap[g]? = some (.cells cur t fz)) (new : Array Value) (b k : Nat) : (w.setRow g new).cell? ⟨b, k, none⟩ = if b = g then new[k]? else w.cell? ⟨b, k, none⟩ := by
  by_cases h : b = g
  · subst h
    rw [if_pos rfl, cell_of_row _ (setRow_heap w b cur new t fz hg)]
  · rw [if_neg h]
    exact World.cell?_of_block (setRow_other w g b new h)

/-- A block of one's own is written: nobody else sees it. -/
theorem Pres.write {g : Nat} {cur new : Array Value} {t : TypeId} {fz : Nat × Nat} (hg : w.heap[g]? = some (.cells cur t fz)) (ho : G.O g ≠ .frame ∧ G.O g ≠ .none) (hst : ∀ k, k < G.R g → new[k]? = cur[k]?)
    (hR : G.R g ≤ G'.R g) (hO : ∀ b, b ≠ g → G'.O b = G.O b ∧ G'.R b = G.R b) : Pres G w G' (w.setRow g new) where
  os := rfl
  tape := rfl
  output := rfl
  size := by simp [World.setRow]
  mono := fun b _ => by
    by_cases h : b = g
    · subst h; exact hR
    · rw [(hO b h).2]; exact Nat.le_refl _
  stable := fun b k _ hk => by
    rw [setRow_cell hg]
    split
    · rename_i h; subst h
      rw [hst k hk, cell_of_row w hg]
    · rfl
  frame := fun b _ hb => by
    have : b ≠ g := fun e => by subst e; rcases hb with hb | hb; exact ho.1 hb; exact ho.2 hb
    exact setRow_other w g b new this
  frameO := fun b _ hb => by
    have : b ≠ g := fun e => by subst e; exact ho.1 hb
    exact ⟨(hO b this).1.trans hb, (hO b this).2⟩
  noneO := fun b _ hb => by
    have : b ≠ g := fun e => by subst e; exact ho.2 hb
    exact ⟨(hO b this).1.trans hb, (hO b this).2⟩

theorem Inv.written (h : Inv G n σ a w) {g : Nat} {c new : Array Value} {t : TypeId} (hg : w.heap[g]? = some (.cells c t (0, 0))) (ho : (∃ i, G.O g = .loc i) ∨ G.O g = .sh) (hR : G.R g = 0) {σ' : St} (hlp : σ'.lp = σ.lp)
    (hst : StoreR G (w.setRow g new) σ'.s)
    (he : ∀ k, (look σ'.e k = look σ.e k ∧ G.O g ≠ .loc k) ∨ (G.O g = .loc k ∧ a.tmps[k]? = some (.pointer (some ⟨g, 0, none⟩)) ∧ ∃ cs cs', look σ.e k = .loc cs ∧ look σ'.e k = .loc cs' ∧ CellsR G (w.setRow g new) (.cell g) cs' new ∧ Fl cs')) :
    Inv G n σ' a (w.setRow g new) ∧ Pres G w G (w.setRow g new) := by
  have hog : G.O g ≠ .frame ∧ G.O g ≠ .none ∧ (∀ i j, G.O g ≠ .slot i j) ∧ (∀ i j, G.O g ≠ .cell i j) := by rcases ho with ⟨i, ho⟩ | ho <;> rw [ho] <;> simp
  have hpres : Pres G w G (w.setRow g new) := Pres.write hg ⟨hog.1, hog.2.1⟩ (fun k hk => by rw [hR] at hk; omega) (Nat.le_refl _) (fun _ _ => ⟨rfl, rfl⟩)
  have hother : ∀ b, G.O b ≠ G.O g → (w.setRow g new).heap[b]? = w.heap[b]? := fun b hb => setRow_other w g b new (fun e => hb (by rw [e]))
  refine ⟨⟨⟨fun b hb => h.good.newO b (by simpa [World.setRow] using hb), fun b hb => h.good.newR b (by simpa [World.setRow] using hb)⟩, hst, h.size, fun k v hk => ?_, fun k hk => ?_, fun k d hd => ?_, h.def0⟩, hpres⟩
  · have hs := h.slots k v hk
    rcases he k with ⟨e, hnk⟩ | ⟨hgk, htm, cs, cs', e1, e2, e3, e4⟩
    · rw [e]
      refine ValS.frame (G := G) (G' := G) (fun _ _ hv => hpres.vr h.good hv) (fun b hb => ⟨rfl, rfl, hother b ?_⟩) (fun b c' j _ hc => ⟨hc, rfl, hother c' ?_⟩) _ _ (fun d _ ds hds => ?_) hs
      · rcases hb with ⟨j, hb⟩ | hb
        · rw [hb]; exact fun e => hog.2.2.1 _ _ e.symm
        · rw [hb]; exact fun e => hnk e.symm
      · rw [hc]; exact fun e => hog.2.2.2 _ _ e.symm
      · rcases he d with ⟨e', _⟩ | ⟨_, _, ds', _, e1', _⟩
        · exact ⟨ds, by rw [← e']; exact hds, rfl⟩
        · exact ⟨ds', e1', rfl⟩
    · rw [e2]
      have hv : v = .pointer (some ⟨g, 0, none⟩) := by rw [htm] at hk; exact (Option.some.inj hk).symm
      exact ⟨g, new, t, hv, hgk, hR, setRow_heap w g c new t _ hg, e3, e4⟩
  · rcases he k with ⟨e, _⟩ | ⟨_, _, cs, _, e1, _⟩
    · rw [e]; exact h.dom k hk
    · rw [h.dom k hk] at e1; cases e1
  · rw [hlp]
    rcases he k with ⟨e, _⟩ | ⟨_, _, cs, cs', _, e2, _⟩
    · rw [e] at hd; exact h.lps k d hd
    · rw [e2] at hd; exact hd.elim

/-- Some cells of a row are laid anew. -/
theorem CellsR.lay {g off : Nat} {cs news : List AV} {c : Array Value} {vs : List Value} {t : TypeId} {fz : Nat × Nat} (hg : w.heap[g]? = some (.cells c t fz)) (hpres : Pres G w G (w.setRow g (laid c off vs))) (hgood : GoodW G w)
    (hc : CellsR G w (.cell g) cs c) (hl : vs.length = news.length) (hfit : off + news.length ≤ cs.length) (hne : ∀ j, G.O g ≠ .cell g j)
    (hn : ∀ (j : Nat) (x : AV) (y : Value), news[j]? = some x → vs[j]? = some y → VR w G.R x y ∧ OwnR G w (.cell g (off + j)) x y) :
    CellsR G (w.setRow g (laid c off vs)) (.cell g) (setAt cs off news) (laid c off vs) := by
  have hfit' : off + vs.length ≤ c.size := by rw [hl, hc.1]; exact hfit
  refine ⟨by rw [laid_size _ _ _ hfit', setAt_len _ _ _ hfit, hc.1], fun j x y hx hy => ?_⟩
  rw [setAt_get _ _ _ _ hfit] at hx
  rw [laid_get _ _ _ hfit'] at hy
  have mono : ∀ o : Nat, OwnR G w (.cell g o) x y → OwnR G (w.setRow g (laid c off vs)) (.cell g o) x y := fun o ho => ho.mono fun b hb => ⟨hb, rfl, setRow_other w g b _ (fun e => by subst e; exact hne _ hb)⟩
  by_cases hj : off ≤ j ∧ j < off + news.length
  · rw [if_pos hj] at hx
    rw [if_pos (by omega)] at hy
    obtain ⟨h1, h2⟩ := hn (j - off) x y hx hy
    have : off + (j - off) = j := by omega
    rw [this] at h2
    exact ⟨hpres.vr hgood h1, mono j h2⟩
  · rw [if_neg hj] at hx
    rw [if_neg (by omega)] at hy
    obtain ⟨h1, h2⟩ := hc.2 j x y hx hy
    exact ⟨hpres.vr hgood h1, mono j h2⟩

theorem stCells_fl {av : AV} {v : Value} (hi : isV av = true) (h : VR w G.R av v) : Fl (stCells av) ∧ v.cells.toList.length = (stCells av).length ∧ (∀ (j : Nat) (x : AV) (y : Value), (stCells av)[j]? = some x → v.cells.toList[j]? = some y → VR w G.R x y) ∧
    (∀ y ∈ v.cells.toList, y.oneCell' = true) := by
  have hr := cellsOf_row hi h
  have hrow : Row w G.R (stCells av) v.cells := by
    cases av <;> first | exact hr | exact hr.views
  refine ⟨hrow.2.2, by simpa using hrow.1, fun j x y hx hy => hrow.2.1 j x y hx (by simpa using hy), fun y hy => ?_⟩
  obtain ⟨j, hj⟩ := List.mem_iff_getElem?.1 hy
  have hjl : j < (stCells av).length := by rw [← hrow.1]; have := (List.getElem?_eq_some_iff.1 hj).1; simpa using this
  have hx := List.getElem?_eq_getElem hjl
  exact oneCell_of_flat (hrow.2.2 _ (List.getElem_mem hjl)) (hrow.2.1 j _ y hx (by simpa using hj))

theorem run_storeVar {t : TypeId} {m : Nat} (hs : sizeIs P t m = true) {g off : Nat} {c : Array Value} {et : TypeId} (hg : w.heap[g]? = some (.cells c et (0, 0))) {v : Value} (hm : v.cells.size = m) (hfit : off + m ≤ c.size) (h1 : ∀ y ∈ v.cells.toList, y.oneCell' = true) :
    (storeVar t ⟨g, off, none⟩ v).run P w = .ok () (w.setRow g (laid c off v.cells.toList)) := by
  have := run_storeCells_free (P := P) g off et (0, 0) v.cells.toList 0 c w hg (fun k _ hk => by simp at hk) (by simp [hm]; omega) h1
  simp only [storeVar, Sem.run_bind, run_sizeOf hs, Result.andThen_ok]
  rw [if_neg (by simp [hm])]
  simpa [laid] using this

theorem wrCells_eq {off : Nat} {news old cs : List AV} (h : wrCells off news old = some cs) : off + news.length ≤ old.length ∧ cs = setAt old off news := by
  unfold wrCells at h
  by_cases hl : off + news.length ≤ old.length
  · rw [decide_eq_true hl] at h; injection h with h; exact ⟨hl, h.symm⟩
  · rw [decide_eq_false hl] at h; cases h

theorem look_drain {v : IX} (hi : isV (σ.x v) = true) {k : Nat} {cs : List AV} (h : look (σ.drain v).e k = .loc cs) : look σ.e k = .loc cs := by
  cases v with
  | c _ => exact h
  | t i =>
    simp only [St.drain, St.put, look_cons] at h
    split at h
    · have := not_loc (isV_view (show isV (look σ.e i) = true from hi)) cs
      exact absurd h this
    · exact h

theorem look_drain' {v : IX} (hi : isV (σ.x v) = true) {k : Nat} {cs : List AV} (h : look σ.e k = .loc cs) : look (σ.drain v).e k = .loc cs := by
  cases v with
  | c _ => exact h
  | t i =>
    simp only [St.drain, St.put, look_cons]
    split
    · rename_i e; subst e
      rw [show σ.x (.t i) = look σ.e i from rfl, h] at hi
      cases hi
    · exact h

theorem eff_store (h : Inv G n σ a w) {op : Op} {ty : TypeId} {m : Nat} {p v : IX} {d : Option Nat} {K : St → Prop} (hd : dstOK n d = true) (hc : chkOp P op ty (.store m p v) = true) (hw : iwp P (.store m p v) d σ K) : Eff P G n w a op ty d K := by
  cases op <;> first | (simp [chkOp] at hc; done) | skip
  rename_i t q u
  simp only [chkOp, Bool.and_eq_true] at hc
  obtain ⟨⟨hs, hq⟩, hu⟩ := hc
  obtain ⟨hi, hm, hk⟩ := hw
  have hvr : VR w G.R (σ.x v) (a.eval u) := by
    have := XR.of_inv h hu
    generalize σ.x v = av at hi this
    cases av <;> first | exact this | (simp [isV] at hi)
  -- the target
  have target : ∃ g off old, a.eval q = .pointer (some ⟨g, off, none⟩) ∧
      ((∃ i, look σ.e i = .loc old ∧ a.tmps[i]? = some (.pointer (some ⟨g, 0, none⟩)) ∧ wrSt (σ.drain v) (σ.x p) p (stCells (σ.x v)) = wrL (σ.drain v) i (wrCells off (stCells (σ.x v)) old)) ∨
       (σ.s g = some (.cells old) ∧ wrSt (σ.drain v) (σ.x p) p (stCells (σ.x v)) = wrS (σ.drain v) g (wrCells off (stCells (σ.x v)) old))) := by
    have hb := XR.of_inv h hq
    cases hp : σ.x p with
    | loc old =>
      rw [hp] at hb
      obtain ⟨i, b, c, t', e1, e2, e3, e4, _⟩ := hb
      refine ⟨b, 0, old, e4, .inl ⟨i, e2, by rw [e3, e4], ?_⟩⟩
      subst e1; rfl
    | lp d0 off =>
      rw [hp] at hb hk
      obtain ⟨b, e1, e2⟩ := hb
      have hk' : stK d K (wrLoc (σ.drain v) d0 off (stCells (σ.x v)) (look (σ.drain v).e d0)) := hk
      cases hl : look (σ.drain v).e d0 <;> rw [hl] at hk' <;> first | exact hk'.elim | skip
      rename_i old
      have hl' := look_drain hi hl
      exact ⟨b, off, old, e1, .inl ⟨d0, hl', e2 old hl', by show wrLoc _ _ _ _ (look (σ.drain v).e d0) = _; rw [hl]; rfl⟩⟩
    | ref b off =>
      rw [hp] at hb hk
      have e1 := VR.inv_ref hb
      have hk' : stK d K (wrSO (σ.drain v) b off (stCells (σ.x v)) ((σ.drain v).s b)) := hk
      have hs' : (σ.drain v).s = σ.s := by cases v <;> rfl
      rw [hs'] at hk'
      cases hl : σ.s b with
      | none => rw [hl] at hk'; exact hk'.elim
      | some so =>
        cases so with
        | map es => rw [hl] at hk'; exact hk'.elim
        | cells old => exact ⟨b, off, old, e1, .inr ⟨hl, by show wrSO _ _ _ _ ((σ.drain v).s b) = _; rw [hs', hl]; rfl⟩⟩
    | _ => rw [hp] at hk; exact hk.elim
  obtain ⟨g, off, old, e1, htar⟩ := target
  obtain ⟨G1, h1, hp1, hv1, hown1, hR1, hsh, hloc, hcell⟩ := h.drain hu hi (.cell g off) (by simp) (by simp)
  obtain ⟨hfl, hlen, hvals, hone⟩ := stCells_fl hi hv1
  have hown : ∀ (x : AV) (y : Value), (stCells (σ.x v))[0]? = some x → (a.eval u).cells.toList[0]? = some y → OwnR G1 w (.cell g (off + 0)) x y := by
    intro x y hx hy
    cases hv : σ.x v with
    | agg cs =>
      rw [hv] at hx
      simp only [stCells] at hx
      rw [views_get] at hx
      cases hc0 : cs[0]? with
      | none => rw [hc0] at hx; cases hx
      | some c0 => rw [hc0] at hx; simp at hx; rw [← hx]; exact OwnR.view ..
    | sl o s l cs =>
      rw [hv] at hx hown1 hv1
      simp [stCells] at hx
      subst hx
      have : (a.eval u).cells = #[a.eval u] := by rcases VR.inv_sl hv1 with ⟨e, _⟩ | ⟨_, _, _, e, _⟩ <;> rw [e] <;> rfl
      rw [this] at hy
      simp at hy
      subst hy
      exact hown1
    | _ => rw [hv] at hx; simp [stCells] at hx; subst hx; trivial
  have hown' : ∀ (j : Nat) (x : AV) (y : Value), (stCells (σ.x v))[j]? = some x → (a.eval u).cells.toList[j]? = some y → VR w G1.R x y ∧ OwnR G1 w (.cell g (off + j)) x y := by
    intro j x y hx hy
    refine ⟨hvals j x y hx hy, ?_⟩
    cases j with
    | zero => exact hown x y hx hy
    | succ j =>
      cases hv : σ.x v with
      | agg cs =>
        rw [hv] at hx
        simp only [stCells] at hx
        rw [views_get] at hx
        cases hc0 : cs[j + 1]? with
        | none => rw [hc0] at hx; cases hx
        | some c0 => rw [hc0] at hx; simp at hx; rw [← hx]; exact OwnR.view ..
      | _ => rw [hv] at hx; simp [stCells] at hx
  have hlen' : (a.eval u).cells.toList.length = m := by rw [hlen, hm]
  have hput : ∀ (τ : St) (w' : World), Inv G1 n τ a w' → Inv G1 n (τ.put d (.tup [])) (a.put d undef) w' := by
    intro τ w' hτ
    have := hτ.put (s' := τ.s) (lp' := τ.lp) d (fun i hi => by subst hi; simpa [dstOK] using hd) (.tup []) undef hτ.good (Pres.refl G1 w') hτ.store (fun _ hx => hx) (fun i t _ ht => ht.elim) (fun i t _ ⟨cs, hcs⟩ => by cases hcs)
      (fun _ _ _ _ => ⟨rfl, rfl, rfl⟩) (fun _ _ _ _ _ _ hcc => ⟨hcc, rfl, rfl⟩) (fun i hdi => ⟨#[], rfl, rfl, fun j x y hx => by simp at hx⟩)
    cases d <;> exact this
  rcases htar with ⟨i, e2, e3, e4⟩ | ⟨e2, e4⟩
  · -- a local block
    rw [e4] at hk
    cases hwr : wrCells off (stCells (σ.x v)) old with
    | none => rw [hwr] at hk; exact hk.elim
    | some cs' =>
      rw [hwr] at hk
      obtain ⟨hfit, rfl⟩ := wrCells_eq hwr
      have e2' : look (σ.drain v).e i = .loc old := look_drain' hi e2
      have hslot := h1.slots i _ e3
      rw [e2'] at hslot
      obtain ⟨b, c, t', q1, q2, q3, q4, q5, q6⟩ := hslot
      injection q1 with q1; injection q1 with q1; injection q1 with q1 _ _
      subst q1
      have hne : ∀ j, G1.O g ≠ .cell g j := fun j => by rw [q2]; simp
      have hfit' : off + (a.eval u).cells.toList.length ≤ c.size := by rw [hlen, q5.1]; exact hfit
      have hrun := run_storeVar (P := P) hs q4 (v := a.eval u) (by simpa using hlen') (by rw [← hlen']; exact hfit') hone
      have hpres : Pres G1 w G1 (w.setRow g (laid c off (a.eval u).cells.toList)) := Pres.write q4 (by rw [q2]; simp) (fun k hk => by rw [q3] at hk; omega) (Nat.le_refl _) (fun _ _ => ⟨rfl, rfl⟩)
      have hcells := CellsR.lay q4 hpres h1.good q5 hlen hfit hne hown'
      obtain ⟨h2, _⟩ := h1.written (σ' := (σ.drain v).put (some i) (.loc (setAt old off (stCells (σ.x v))))) q4 (.inl ⟨i, q2⟩) q3 rfl
        (h1.store.mono h1.good hpres (fun b hb => ⟨hb, rfl, setRow_other w g b _ (fun e => by subst e; rw [q2] at hb; cases hb)⟩) (fun b c j _ hc => ⟨hc, rfl, setRow_other w g c _ (fun e => by subst e; rw [q2] at hc; cases hc)⟩))
        (fun k => by
          by_cases hki : i = k
          · subst hki
            exact .inr ⟨q2, e3, old, _, e2', by simp [St.put, look_cons], hcells, Fl.setAt q6 hfl off⟩
          · refine .inl ⟨by simp [St.put, look_cons, hki], ?_⟩
            rw [q2]; intro e; injection e with e; exact hki e)
      intro pos after gd next Q hn
      exact wp_skip' (w' := w.setRow g (laid c off (a.eval u).cells.toList)) (by simp [execOp, e1, Instr.storeAt, Instr.sureAddr, hrun]) (hn G1 _ _ _ (hput _ _ h2) (hp1.trans hpres) hk)
  · -- a shared block
    rw [e4] at hk
    cases hwr : wrCells off (stCells (σ.x v)) old with
    | none => rw [hwr] at hk; exact hk.elim
    | some cs' =>
      rw [hwr] at hk
      obtain ⟨hfit, rfl⟩ := wrCells_eq hwr
      have hs' : (σ.drain v).s = σ.s := by cases v <;> rfl
      obtain ⟨q2, q3, c, t', q4, q5, q6⟩ := h1.store g (.cells old) (by rw [hs']; exact e2)
      have hne : ∀ j, G1.O g ≠ .cell g j := fun j => by rw [q2]; simp
      have hfit' : off + (a.eval u).cells.toList.length ≤ c.size := by rw [hlen, q5.1]; exact hfit
      have hrun := run_storeVar (P := P) hs q4 (v := a.eval u) (by simpa using hlen') (by rw [← hlen']; exact hfit') hone
      have hpres : Pres G1 w G1 (w.setRow g (laid c off (a.eval u).cells.toList)) := Pres.write q4 (by rw [q2]; simp) (fun k hk => by rw [q3] at hk; omega) (Nat.le_refl _) (fun _ _ => ⟨rfl, rfl⟩)
      have hcells := CellsR.lay q4 hpres h1.good q5 hlen hfit hne hown'
      have hst : StoreR G1 (w.setRow g (laid c off (a.eval u).cells.toList)) ((σ.drain v).s.set g (.cells (setAt old off (stCells (σ.x v))))) := by
        intro b o hb
        unfold Store.set at hb
        by_cases hbg : b = g
        · rw [if_pos hbg] at hb; injection hb with hb; subst hb; subst hbg
          exact ⟨q2, q3, _, t', setRow_heap w b c _ t' _ q4, hcells, Fl.setAt q6 hfl off⟩
        · rw [if_neg hbg] at hb
          obtain ⟨r1, r2, r3⟩ := h1.store b o hb
          refine ⟨r1, r2, ?_⟩
          have hbk := setRow_other w g b (laid c off (a.eval u).cells.toList) hbg
          cases o with
          | cells cs =>
            obtain ⟨c0, t0, r4, r5, r6⟩ := r3
            exact ⟨c0, t0, hbk.trans r4, r5.mono (fun _ _ hv => hpres.vr h1.good hv) (fun b' j hb' => ⟨hb', rfl, setRow_other w g b' _ (fun e => by subst e; rw [q2] at hb'; cases hb')⟩), r6⟩
          | map es =>
            obtain ⟨ents, clock, r4, r5, r6⟩ := r3
            exact ⟨ents, clock, hbk.trans r4, r5, fun j x y hx hy => ⟨hpres.vr h1.good (r6 j x y hx hy).1, hpres.vr h1.good (r6 j x y hx hy).2⟩⟩
      obtain ⟨h2, _⟩ := h1.written (σ' := { σ.drain v with s := (σ.drain v).s.set g (.cells (setAt old off (stCells (σ.x v)))) }) q4 (.inr q2) q3 rfl hst
        (fun k => .inl ⟨rfl, by rw [q2]; simp⟩)
      intro pos after gd next Q hn
      exact wp_skip' (w' := w.setRow g (laid c off (a.eval u).cells.toList)) (by simp [execOp, e1, Instr.storeAt, Instr.sureAddr, hrun]) (hn G1 _ _ _ (hput _ _ h2) (hp1.trans hpres) hk)
end
end Go.AB
