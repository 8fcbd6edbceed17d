/- The abstract layer, part 11: memory that is made and written. -/
import Derived.Test.YtbinmjafmcaehaaAb10
import Derived.Laws.Rows
import Derived.Laws.CopyRow
import Derived.Laws.Append
import Derived.Laws.AppendOwn
namespace Go.AB
open Go

def Gh.upd (G : Gh) (b : Nat) (o : Owner) (r : Nat) : Gh := ⟨fun i => if i = b then r else G.R i, fun i => if i = b then o else G.O i⟩
@[simp] theorem Gh.upd_O (G : Gh) (b : Nat) (o : Owner) (r i : Nat) : (G.upd b o r).O i = if i = b then o else G.O i := rfl
@[simp] theorem Gh.upd_R (G : Gh) (b : Nat) (o : Owner) (r i : Nat) : (G.upd b o r).R i = if i = b then r else G.R i := rfl
/-- One owner's blocks become another's. -/
def Gh.retag (G : Gh) (o o' : Owner) : Gh := ⟨G.R, fun i => if G.O i = o then o' else G.O i⟩
@[simp] theorem Gh.retag_R (G : Gh) (o o' : Owner) : (G.retag o o').R = G.R := rfl
@[simp] theorem Gh.retag_O (G : Gh) (o o' : Owner) (i : Nat) : (G.retag o o').O i = if G.O i = o then o' else G.O i := rfl

section
variable {P : Program} {G G' : Gh} {n : Nat} {σ : St} {a : Act} {w w' : World}

theorem StoreR.mono' {s : Store} (h : StoreR G w s) (hv : ∀ a v, VR w G.R a v → VR w' G'.R a v)
    (hsh : ∀ b, G.O b = .sh → G'.O b = .sh ∧ G'.R b = G.R b ∧ w'.heap[b]? = w.heap[b]?)
    (hcell : ∀ b c j, G.O b = .sh → G.O c = .cell b j → G'.O c = .cell b j ∧ G'.R c = G.R c ∧ w'.heap[c]? = w.heap[c]?) : StoreR G' w' s := by
  intro b o hb
  obtain ⟨h1, h2, h3⟩ := h b o hb
  obtain ⟨k1, k2, k3⟩ := hsh b h1
  refine ⟨k1, k2.trans h2, ?_⟩
  cases o with
  | cells cs =>
    obtain ⟨c, t, h4, h5, h6⟩ := h3
    exact ⟨c, t, k3.trans h4, h5.mono hv (fun b' j hb' => hcell b b' j h1 hb'), h6⟩
  | map es =>
    obtain ⟨ents, clock, h4, h5, h6⟩ := h3
    exact ⟨ents, clock, k3.trans h4, h5, fun j x y hx hy => ⟨hv _ _ (h6 j x y hx hy).1, hv _ _ (h6 j x y hx hy).2⟩⟩

theorem StoreR.mono {s : Store} (h : StoreR G w s) (hg : GoodW G w) (hp : Pres G w G' w')
    (hsh : ∀ b, G.O b = .sh → G'.O b = .sh ∧ G'.R b = G.R b ∧ w'.heap[b]? = w.heap[b]?)
    (hcell : ∀ b c j, G.O b = .sh → G.O c = .cell b j → G'.O c = .cell b j ∧ G'.R c = G.R c ∧ w'.heap[c]? = w.heap[c]?) : StoreR G' w' s :=
  h.mono' (fun _ _ hv => hp.vr hg hv) hsh hcell

/-- A block that is there. -/
theorem GoodW.lt (h : GoodW G w) {b : Nat} (ho : G.O b ≠ .none) : b < w.heap.size := by
  rcases Nat.lt_or_ge b w.heap.size with hb | hb
  · exact hb
  · exact absurd (h.newO b hb) ho

/-- A new block. -/
theorem alloc_facts (hg : GoodW G w) (ob : Obj) (o : Owner) (r : Nat) :
    GoodW (G.upd w.heap.size o r) (w.alloc ob) ∧ Pres G w (G.upd w.heap.size o r) (w.alloc ob) ∧
    (∀ b, G.O b ≠ .none → (G.upd w.heap.size o r).O b = G.O b ∧ (G.upd w.heap.size o r).R b = G.R b ∧ (w.alloc ob).heap[b]? = w.heap[b]?) := by
  have hsz : (w.alloc ob).heap.size = w.heap.size + 1 := Array.size_push ..
  refine ⟨⟨fun b hb => ?_, fun b hb => ?_⟩, ⟨rfl, rfl, rfl, by omega, fun b hb => ?_, fun b k hb _ => ?_, fun b hb _ => heap_alloc_old w ob b hb, fun b hb ho => ?_, fun b hb ho => ?_⟩, fun b ho => ?_⟩
  · have : b ≠ w.heap.size := by omega
    simp [this, hg.newO b (by omega)]
  · have : b ≠ w.heap.size := by omega
    simp [this, hg.newR b (by omega)]
  · have : b ≠ w.heap.size := by omega
    simp [this]
  · exact World.cell?_of_block (heap_alloc_old w ob b hb)
  · have : b ≠ w.heap.size := by omega
    simp [this, ho]
  · have : b ≠ w.heap.size := by omega
    simp [this, ho]
  · have hb := hg.lt ho
    have : b ≠ w.heap.size := by omega
    exact ⟨by simp [this], by simp [this], heap_alloc_old w ob b hb⟩

theorem alloc_store {s : Store} (h : StoreR G w s) (hg : GoodW G w) (ob : Obj) (o : Owner) (r : Nat) : StoreR (G.upd w.heap.size o r) (w.alloc ob) s := by
  obtain ⟨_, h2, h3⟩ := alloc_facts hg ob o r
  refine h.mono hg h2 (fun b hb => ?_) (fun b c j _ hc => ?_)
  · obtain ⟨k1, k2, k3⟩ := h3 b (by rw [hb]; simp)
    exact ⟨k1.trans hb, k2, k3⟩
  · obtain ⟨k1, k2, k3⟩ := h3 c (by rw [hc]; simp)
    exact ⟨k1.trans hc, k2, k3⟩

/-- A new block, and a value for it in a slot. -/
theorem Inv.alloc (h : Inv G n σ a w) (ob : Obj) (o : Owner) (r : Nat) {s' : Store} (d : Option Nat) (hd : dstOK n d = true) (av : AV) (v : Value) (lp' : List (Nat × Nat))
    (hst : StoreR (G.upd w.heap.size o r) (w.alloc ob) s')
    (hlp : ∀ x ∈ σ.lp, x ∈ lp') (hlpn : ∀ i t, d = some i → holdsLp av t → (i, t) ∈ lp')
    (hfree : ∀ i t, d = some i → (∃ cs, av = .loc cs) → (t, i) ∉ σ.lp)
    (hnew : ∀ i, d = some i → ValS (G.upd w.heap.size o r) (w.alloc ob) ((σ.put d av).e) (a.put d v).tmps i av v) :
    Inv (G.upd w.heap.size o r) n { (σ.put d av) with s := s', lp := lp' } (a.put d v) (w.alloc ob) ∧ Pres G w (G.upd w.heap.size o r) (w.alloc ob) := by
  obtain ⟨h1, h2, h3⟩ := alloc_facts h.good ob o r
  refine ⟨h.put d (fun i hi => by subst hi; simpa [dstOK] using hd) av v h1 h2 hst hlp hlpn hfree (fun i b _ hb => h3 b ?_) (fun i b c j _ hb hc => ?_) hnew, h2⟩
  · rcases hb with ⟨j, hb⟩ | hb <;> rw [hb] <;> simp
  · obtain ⟨k1, k2, k3⟩ := h3 c (by rw [hc]; simp)
    exact ⟨k1.trans hc, k2, k3⟩

theorem StoreR.get_none (h : StoreR G w σ.s) (hg : GoodW G w) : σ.s w.heap.size = none := by
  cases hs : σ.s w.heap.size with
  | none => rfl
  | some o =>
    have := (h _ _ hs).1
    rw [hg.newO _ (Nat.le_refl _)] at this
    cases this

theorem lpFree_spec {lp : List (Nat × Nat)} {d : Option Nat} (h : lpFree lp d = true) : ∀ i t, d = some i → (t, i) ∉ lp := by
  intro i t hd hm
  subst hd
  simp only [lpFree, List.all_eq_true] at h
  have := h _ hm
  simp at this

theorem wp_value {o : Oper} {v : Value} {next : Act → World → Prop} {Q : Exit → Act → World → Prop} (hr : (execOp a.eval o).run P w = .ok (.value v) w') (hn : next (a.put o.dst v) w') : o.wp P a w next Q := by
  unfold Oper.wp
  rw [hr]
  exact hn

theorem wp_skip' {o : Oper} {next : Act → World → Prop} {Q : Exit → Act → World → Prop} (hr : (execOp a.eval o).run P w = .ok .skip w') (hn : next (a.put o.dst undef) w') : o.wp P a w next Q := by
  unfold Oper.wp
  rw [hr]
  exact hn

/-- A slot is thought of anew. -/
theorem Inv.reabs (h : Inv G n σ a w) (i : Nat) (hi : i < n) (av : AV) (hnl : ∀ t, ¬ holdsLp av t) (hnloc : ∀ cs, av ≠ .loc cs)
    (hv : ∀ v, a.tmps[i]? = some v → ValS G w ((σ.put (some i) av).e) a.tmps i av v) : Inv G n (σ.put (some i) av) a w := by
  have hlt : i < a.tmps.size := by rw [h.size]; exact hi
  have ha : a.put (some i) a.tmps[i] = a := by
    have : a.tmps.setIfInBounds i a.tmps[i] = a.tmps := by
      rw [Array.setIfInBounds, dif_pos hlt, Array.set_getElem_self]
    simp [Act.put, this]
  have := h.put (some i) (fun j hj => by injection hj with hj; subst hj; exact hi) av a.tmps[i] h.good (Pres.refl G w) h.store (fun x hx => hx) (fun j t _ ht => (hnl t ht).elim)
    (fun j t _ ⟨cs, hcs⟩ => (hnloc cs hcs).elim) (fun _ b _ _ => ⟨rfl, rfl, rfl⟩) (fun _ b c j _ _ hc => ⟨hc, rfl, rfl⟩)
    (fun j hj => by injection hj with hj; subst hj; rw [ha]; exact hv _ (Array.getElem?_eq_getElem hlt))
  rw [ha] at this
  exact this

theorem not_holdsLp {av : AV} (h : isV av = true) (t : Nat) : ¬ holdsLp av t := by cases av <;> simp_all [isV, holdsLp]
theorem not_loc {av : AV} (h : isV av = true) (cs : List AV) : av ≠ .loc cs := by cases av <;> simp_all [isV]

theorem Inv.lt_of (h : Inv G n σ a w) {i : Nat} (hi : look σ.e i ≠ .undef) : i < n := by
  rcases Nat.lt_or_ge i n with hlt | hge
  · exact hlt
  · exact absurd (h.dom i hge) hi

theorem chkX_tmp {o : Operand} {i : Nat} (h : chkX o (.t i) = true) : o = .tmp i := by
  cases o with
  | tmp t => simp [chkX] at h; rw [h]
  | const v => cases v <;> simp [chkX] at h
  | _ => simp [chkX] at h

theorem chkX_own {o : Operand} {c : AV} (h : chkX o (.c c) = true) (G : Gh) (w : World) (T : Owner) : OwnR G w T c (a.eval o) := by
  cases o with
  | tmp t => simp [chkX] at h
  | global g => simp [chkX] at h
  | func f => cases c <;> first | trivial | (simp [chkX] at h)
  | const v =>
    show OwnR G w T c v
    have hc : (∃ cs, c = .agg cs) ∨ cR v c = true := by
      cases v <;> first | exact .inr h | skip
      cases c <;> first | exact .inl ⟨_, rfl⟩ | exact .inr h
    rcases hc with ⟨cs, rfl⟩ | hc
    · trivial
    · exact cR_own hc G w T

/-- What an operand holds is taken out: only the value itself may own now. -/
theorem Inv.drain (h : Inv G n σ a w) {x : IX} {o : Operand} (hx : chkX o x = true) (hi : isV (σ.x x) = true) (T : Owner) (hT1 : T ≠ .sh) (hT2 : ∀ i, T ≠ .loc i) :
    ∃ G', Inv G' n (σ.drain x) a w ∧ Pres G w G' w ∧ VR w G'.R (σ.x x) (a.eval o) ∧ OwnR G' w T (σ.x x) (a.eval o) ∧ G'.R = G.R ∧ (∀ b, G'.O b = .sh ↔ G.O b = .sh) ∧ (∀ b i, G'.O b = .loc i ↔ G.O b = .loc i) ∧
      (∀ b b' j, G.O b = .cell b' j → G'.O b = .cell b' j) := by
  have hvr : VR w G.R (σ.x x) (a.eval o) := by
    have := XR.of_inv h hx
    generalize σ.x x = av at hi this
    cases av <;> first | exact this | (simp [isV] at hi)
  cases x with
  | c c =>
    refine ⟨G, h, Pres.refl G w, hvr, ?_, rfl, fun _ => Iff.rfl, fun _ _ => Iff.rfl, fun _ _ _ hc => hc⟩
    exact chkX_own hx G w T
  | t i =>
    have hin : i < n := h.lt_of (fun e => by rw [show σ.x (.t i) = look σ.e i from rfl, e] at hi; cases hi)
    have ho : o = .tmp i := chkX_tmp hx
    subst ho
    have hlt : i < a.tmps.size := by rw [h.size]; exact hin
    have hcur := h.slots i _ (eval_some hlt)
    have hi' : isV (look σ.e i) = true := hi
    rw [ValS.of_isV hi'] at hcur
    have hne : ∀ b, G.O b ≠ .slot i 0 → (G.retag (.slot i 0) T).O b = G.O b := fun b hb => by simp [hb]
    have hpres : Pres G w (G.retag (.slot i 0) T) w := ⟨rfl, rfl, rfl, Nat.le_refl _, fun _ _ => Nat.le_refl _, fun _ _ _ _ => rfl, fun _ _ _ => rfl,
      fun b _ hb => ⟨by rw [hne b (by rw [hb]; simp), hb], rfl⟩, fun b _ hb => ⟨by rw [hne b (by rw [hb]; simp), hb], rfl⟩⟩
    refine ⟨G.retag (.slot i 0) T, ?_, hpres, hvr, ?_, rfl, fun b => ?_, fun b k => ?_, fun b b' j hb => by rw [hne b (by rw [hb]; simp), hb]⟩
    · have h1 := h.reabs i hin (view (look σ.e i)) (not_holdsLp (isV_view hi')) (not_loc (isV_view hi')) (fun v hv => by
        rw [eval_some hlt] at hv; injection hv with hv; subst hv
        exact ValS.mk_view hi' hcur.1)
      refine ⟨⟨fun b hb => by rw [hne b (by rw [h.good.newO b hb]; simp), h.good.newO b hb], h.good.newR⟩, ?_, h1.size, fun k v hk => ?_, h1.dom, h1.lps, h1.def0⟩
      · exact h.store.mono h.good hpres (fun b hb => ⟨by rw [hne b (by rw [hb]; simp), hb], rfl, rfl⟩) (fun b c j _ hc => ⟨by rw [hne c (by rw [hc]; simp), hc], rfl, rfl⟩)
      · have h2 := h1.slots k v hk
        by_cases hki : k = i
        · subst hki
          have e1 : look (σ.put (some k) (view (look σ.e k))).e k = view (look σ.e k) := by simp [St.put, look_cons]
          show ValS _ w _ _ k (look (σ.put (some k) (view (look σ.e k))).e k) v
          rw [e1] at h2 ⊢
          rw [ValS.of_isV (isV_view hi')] at h2 ⊢
          exact ⟨h2.1, OwnR.view ..⟩
        · refine ValS.frame (G := G) (G' := G.retag (.slot i 0) T) (w := w) (fun _ _ hv => hv) (fun b hb => ⟨hne b ?_, rfl, rfl⟩) (fun b c j _ hc => ⟨by rw [hne c (by rw [hc]; simp), hc], rfl, rfl⟩) _ _ (fun d _ cs hcs => ⟨cs, hcs, rfl⟩) h2
          rcases hb with ⟨j, hb⟩ | hb
          · rw [hb]; intro e; injection e with e; exact hki e
          · rw [hb]; simp
    · have := hcur.2
      show OwnR _ w T (look σ.e i) _
      unfold OwnR at this ⊢
      split
      · rename_i sz m cs he
        rw [he] at this
        intro base m' cap hv hc
        obtain ⟨b, off, c, e, fz, q1, q2, q3⟩ := this base m' cap hv hc
        exact ⟨b, off, c, e, fz, q1, by simp [q2], q3⟩
      · trivial
    · by_cases hb : G.O b = .slot i 0
      · simp [hb, hT1]
      · rw [hne b hb]
    · by_cases hb : G.O b = .slot i 0
      · simp [hb, hT2]
      · rw [hne b hb]

/-- What an operation that does more than compute must show. -/
def Eff (P : Program) (G : Gh) (n : Nat) (w : World) (a : Act) (op : Op) (ty : TypeId) (d : Option Nat) (K : St → Prop) : Prop :=
  ∀ (pos : String) (after : Array Edge) (g : Option (Nat × Bool)) (next : Act → World → Prop) (Q : Exit → Act → World → Prop),
    (∀ G' σ' a' w', Inv G' n σ' a' w' → Pres G w G' w' → K σ' → next a' w') → (⟨d, op, ty, pos, after, g⟩ : Oper).wp P a w next Q

theorem eff_mov (h : Inv G n σ a w) {op : Op} {ty : TypeId} {tr : Bool} {x : IX} {d : Option Nat} {K : St → Prop} (hd : dstOK n d = true) (hc : chkOp P op ty (.mov tr x) = true) (hw : iwp P (.mov tr x) d σ K) : Eff P G n w a op ty d K := by
  obtain ⟨hi, hk⟩ := hw
  have key : ∀ y, chkX y x = true → ∃ G', Inv G' n ((σ.drain x).put d (σ.x x)) (a.put d (a.eval y)) w ∧ Pres G w G' w := by
    intro y hy
    obtain ⟨G', h1, h2, h3, h4, _⟩ := h.drain hy hi (match d with | some d => .slot d 0 | none => .frame) (by cases d <;> simp) (by cases d <;> simp)
    refine ⟨G', ?_, h2⟩
    have := h1.put (s' := (σ.drain x).s) (lp' := (σ.drain x).lp) d (fun i hi => by subst hi; simpa [dstOK] using hd) (σ.x x) (a.eval y) h1.good (Pres.refl G' w) h1.store (fun _ hx => hx) (fun i t _ ht => (not_holdsLp hi t ht).elim) (fun i t _ ⟨cs, hcs⟩ => (not_loc hi cs hcs).elim)
      (fun _ _ _ _ => ⟨rfl, rfl, rfl⟩) (fun _ _ _ _ _ _ hcc => ⟨hcc, rfl, rfl⟩) (fun i hdi => by
        subst hdi
        rw [ValS.of_isV hi]
        exact ⟨h3, h4⟩)
    cases d <;> exact this
  intro pos after g next Q hn
  cases op <;> first | (simp [chkOp] at hc; done) | skip
  · rename_i y
    obtain ⟨G', h1, h2⟩ := key y hc
    exact wp_value rfl (hn G' _ _ _ h1 h2 hk)
  · rename_i y
    obtain ⟨G', h1, h2⟩ := key y hc
    exact wp_value rfl (hn G' _ _ _ h1 h2 hk)

theorem cellsR_of_cR {G : Gh} {w : World} {o : Nat → Owner} {z : List AV} {c : Array Value} (h : Row w G.R z c) (h2 : ∀ (j : Nat) (x : AV) (u : Value), z[j]? = some x → c[j]? = some u → cR u x = true) : CellsR G w o z c :=
  ⟨h.1, fun j x y hx hy => ⟨h.2.1 j x y hx hy, cR_own (h2 j x y hx hy) G w _⟩⟩

theorem cellsR_of_views {G : Gh} {w : World} {o : Nat → Owner} {z : List AV} {c : Array Value} (h : Row w G.R z c) : CellsR G w o (views z) c :=
  ⟨h.views.1, fun j x y hx hy => ⟨h.views.2.1 j x y hx hy, by
    rw [views_get] at hx
    cases hz : z[j]? with
    | none => rw [hz] at hx; cases hx
    | some x' => rw [hz] at hx; simp at hx; rw [← hx]; exact OwnR.view ..⟩⟩

theorem Row.mono {R R' : Nat → Nat} {z : List AV} {c : Array Value} (h : Row w R z c) (hv : ∀ a v, VR w R a v → VR w' R' a v) : Row w' R' z c := ⟨h.1, fun j x y hx hy => hv _ _ (h.2.1 j x y hx hy), h.2.2⟩

/-- A new local block. -/
theorem Inv.newL (h : Inv G n σ a w) {d : Option Nat} (hd : dstOK n d = true) (hf : lpFree σ.lp d = true) {cs : List AV} {c : Array Value} {t : TypeId}
    (hcs : ∀ (G' : Gh) (w' : World) (o : Nat → Owner), Pres G w G' w' → CellsR G' w' o cs c) (hfl : Fl cs) :
    ∃ G', Inv G' n (σ.put d (.loc cs)) (a.put d (.pointer (some ⟨w.heap.size, 0, none⟩))) (w.alloc (.cells c t)) ∧ Pres G w G' (w.alloc (.cells c t)) := by
  let o : Owner := match d with | some d => .loc d | none => .none
  have hp := (alloc_facts h.good (.cells c t) o 0).2.1
  obtain ⟨h1, h2⟩ := h.alloc (.cells c t) o 0 d hd (.loc cs) (.pointer (some ⟨w.heap.size, 0, none⟩)) σ.lp (alloc_store h.store h.good _ o 0) (fun _ hx => hx) (fun i t' _ ht => ht.elim) (fun i t' hi _ => lpFree_spec hf i t' hi)
    (fun i hi => by
      subst hi
      exact ⟨w.heap.size, c, t, rfl, by simp [o], by simp, heap_alloc_new w _, hcs _ _ _ hp, hfl⟩)
  exact ⟨_, by cases d <;> exact h1, h2⟩

/-- A new shared block. -/
theorem Inv.newS (h : Inv G n σ a w) {d : Option Nat} (hd : dstOK n d = true) {cs : List AV} {c : Array Value} {t : TypeId} {av : AV} {v : Value} (hav : av = .ref w.heap.size 0 ∧ v = .pointer (some ⟨w.heap.size, 0, none⟩) ∨ ∃ l m, av = .arr w.heap.size 0 l m ∧ v = .slice (some ⟨w.heap.size, 0, none⟩) l m)
    (hcs : ∀ (G' : Gh) (w' : World) (o : Nat → Owner), Pres G w G' w' → CellsR G' w' o cs c) (hfl : Fl cs) :
    ∃ G', Inv G' n ({ σ with s := σ.s.set w.heap.size (.cells cs) }.put d av) (a.put d v) (w.alloc (.cells c t)) ∧ Pres G w G' (w.alloc (.cells c t)) := by
  have hp := (alloc_facts h.good (.cells c t) .sh 0).2.1
  have hs : StoreR (G.upd w.heap.size .sh 0) (w.alloc (.cells c t)) (σ.s.set w.heap.size (.cells cs)) := by
    intro b o hb
    unfold Store.set at hb
    by_cases he : b = w.heap.size
    · rw [if_pos he] at hb
      injection hb with hb
      subst hb; subst he
      exact ⟨by simp, by simp, c, t, heap_alloc_new w _, hcs _ _ _ hp, hfl⟩
    · rw [if_neg he] at hb
      exact alloc_store h.store h.good _ .sh 0 b o hb
  have hv : isV av = true ∧ VR (w.alloc (.cells c t)) (G.upd w.heap.size .sh 0).R av v ∧ ∀ sz m cs, av ≠ .sl true sz m cs := by
    rcases hav with ⟨rfl, rfl⟩ | ⟨l, m, rfl, rfl⟩
    · exact ⟨rfl, .ref _ _, by simp⟩
    · exact ⟨rfl, .arr _ _ _ _, by simp⟩
  obtain ⟨h1, h2⟩ := h.alloc (.cells c t) .sh 0 d hd av v σ.lp hs (fun _ hx => hx) (fun i t' _ ht => (not_holdsLp hv.1 t' ht).elim) (fun i t' _ ⟨cs', hcs'⟩ => (not_loc hv.1 cs' hcs').elim)
    (fun i hi => by
      rw [ValS.of_isV hv.1]
      refine ⟨hv.2.1, ?_⟩
      cases av <;> first | trivial | (rename_i ow sz m cs'; cases ow with
        | true => exact absurd rfl (hv.2.2 sz m cs')
        | false => trivial))
  refine ⟨_, ?_, h2⟩
  cases d <;> exact h1

theorem eff_alloc (h : Inv G n σ a w) {op : Op} {ty : TypeId} {z : List AV} {d : Option Nat} {K : St → Prop} (hd : dstOK n d = true) :
    (chkOp P op ty (.allocL z) = true → iwp P (.allocL z) d σ K → Eff P G n w a op ty d K) ∧ (chkOp P op ty (.allocS z) = true → iwp P (.allocS z) d σ K → Eff P G n w a op ty d K) := by
  have run : ∀ t, zeroIs P t z = true → ∃ c : Array Value, (∀ (dst : Option Tmp) (pos : String) (after : Array Edge) (g : Option (Nat × Bool)), (execOp a.eval ⟨dst, .alloc t, ty, pos, after, g⟩).run P w = .ok (.value (.pointer (some ⟨w.heap.size, 0, none⟩))) (w.alloc (.cells c t))) ∧
      (∀ (G' : Gh) (w' : World) (o : Nat → Owner), CellsR G' w' o z c) ∧ Fl z := by
    intro t hz
    obtain ⟨i, v, h1, h2, _, h4, h5⟩ := zeroIs_eq hz
    refine ⟨v.cells, fun _ _ _ _ => ?_, fun G' w' o => cellsR_of_cR (h4 w' G'.R) h5, (h4 w G.R).2.2⟩
    simp [execOp, Instr.alloc, zeroValue, typeInfo, h1, h2, newVar, newRow]
  constructor
  · intro hc hw pos after g next Q hn
    cases op <;> first | (simp [chkOp] at hc; done) | skip
    rename_i t
    obtain ⟨c, hr, hcs, hfl⟩ := run t hc
    obtain ⟨G', h1, h2⟩ := h.newL hd hw.1 (c := c) (t := t) (fun G' w' o _ => hcs G' w' o) hfl
    exact wp_value (hr d pos after g) (hn G' _ _ _ h1 h2 hw.2)
  · intro hc hw pos after g next Q hn
    cases op <;> first | (simp [chkOp] at hc; done) | skip
    rename_i t
    obtain ⟨c, hr, hcs, hfl⟩ := run t hc
    obtain ⟨G', h1, h2⟩ := h.newS hd (c := c) (t := t) (.inl ⟨rfl, rfl⟩) (fun G' w' o _ => hcs G' w' o) hfl
    exact wp_value (hr d pos after g) (hn G' _ _ _ h1 h2 (hw w.heap.size (h.store.get_none h.good)))

theorem eff_box (h : Inv G n σ a w) {op : Op} {ty : TypeId} {m : Nat} {x : IX} {d : Option Nat} {K : St → Prop} (hd : dstOK n d = true) :
    (chkOp P op ty (.boxL m x) = true → iwp P (.boxL m x) d σ K → Eff P G n w a op ty d K) ∧ (chkOp P op ty (.boxS m x) = true → iwp P (.boxS m x) d σ K → Eff P G n w a op ty d K) := by
  have run : ∀ t y, ∀ (dst : Option Tmp) (pos : String) (after : Array Edge) (g : Option (Nat × Bool)), (execOp a.eval ⟨dst, .box t y, ty, pos, after, g⟩).run P w = .ok (.value (.pointer (some ⟨w.heap.size, 0, none⟩))) (w.alloc (.cells (a.eval y).cells t)) := by
    intro t y _ _ _ _
    simp [execOp, Instr.box, newVar, newRow]
  have cells : ∀ y, chkX y x = true → isV (σ.x x) = true → (∀ (G' : Gh) (w' : World) (o : Nat → Owner), Pres G w G' w' → CellsR G' w' o (views (cellsOf (σ.x x))) (a.eval y).cells) ∧ Fl (views (cellsOf (σ.x x))) := by
    intro y hy hi
    have hvr : VR w G.R (σ.x x) (a.eval y) := by
      have := XR.of_inv h hy
      generalize σ.x x = av at hi this
      cases av <;> first | exact this | (simp [isV] at hi)
    exact ⟨fun G' w' o hp => cellsR_of_views ((cellsOf_row hi hvr).mono fun _ _ hv => hp.vr h.good hv), (cellsOf_row hi hvr).2.2.views⟩
  constructor
  · intro hc hw pos after g next Q hn
    cases op <;> first | (simp [chkOp] at hc; done) | skip
    rename_i t y
    simp only [chkOp, Bool.and_eq_true] at hc
    obtain ⟨hf, hi, _, hk⟩ := hw
    obtain ⟨G', h1, h2⟩ := h.newL hd hf (t := t) (cells y hc.2 hi).1 (cells y hc.2 hi).2
    exact wp_value (run t y d pos after g) (hn G' _ _ _ h1 h2 hk)
  · intro hc hw pos after g next Q hn
    cases op <;> first | (simp [chkOp] at hc; done) | skip
    rename_i t y
    simp only [chkOp, Bool.and_eq_true] at hc
    obtain ⟨hi, _, hk⟩ := hw
    obtain ⟨G', h1, h2⟩ := h.newS hd (t := t) (.inl ⟨rfl, rfl⟩) (cells y hc.2 hi).1 (cells y hc.2 hi).2
    exact wp_value (run t y d pos after g) (hn G' _ _ _ h1 h2 (hk w.heap.size (h.store.get_none h.good)))
end
end Go.AB
