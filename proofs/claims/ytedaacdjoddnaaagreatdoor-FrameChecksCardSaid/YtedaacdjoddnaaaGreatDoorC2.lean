/- A part of the proof: Ab11, Ab12, Ab13, Ab14, Ab15, Ab15m, Ab15n, Ab15p, Ab15q, Ab15r, Ab15s, Ab14b, Ab15u. -/
import Derived.Test.YtedaacdjoddnaaaGreatDoorC1
import Derived.Laws.Rows
import Derived.Laws.CopyRow
import Derived.Laws.Append
import Derived.Laws.AppendOwn
import Derived.Laws.BytesString
import Derived.Laws.BytesArg
import Derived.MapKept
import Derived.ChangeKeysEq
import Derived.Lib.Builder
set_option linter.unusedSimpArgs false
set_option linter.unusedVariables false
section
namespace Go.AB
open Go
def Gh.upd (G : Gh) (b : Nat) (o : Owner) (r : Nat) : Gh := ⟨fun i => if i = b then r else G.R i, fun i => if i = b then o else G.O i⟩
@[simp] theorem Gh.upd_O (G : Gh) (b : Nat) (o : Owner) (r i : Nat) : (G.upd b o r).O i = if i = b then o else G.O i := rfl
@[simp] theorem Gh.upd_R (G : Gh) (b : Nat) (o : Owner) (r i : Nat) : (G.upd b o r).R i = if i = b then r else G.R i := rfl
def Gh.retag (G : Gh) (o o' : Owner) : Gh := ⟨G.R, fun i => if G.O i = o then o' else G.O i⟩
@[simp] theorem Gh.retag_O (G : Gh) (o o' : Owner) (i : Nat) : (G.retag o o').O i = if G.O i = o then o' else G.O i := rfl
section
variable {P : Program} {G G' : Gh} {n : Nat} {D : List Deferred} {σ : St} {a : Act} {w w' : World}
theorem StoreR.mono' {s : Store} (h : StoreR G w s) (hv : ∀ a v, VR w G.R a v → VR w' G'.R a v)
  (hsh : ∀ b, G.O b = .sh → G'.O b = .sh ∧ G'.R b = G.R b ∧ w'.heap[b]? = w.heap[b]?)
  (hcell : ∀ b c j, G.O b = .sh → G.O c = .cell b j → G'.O c = .cell b j ∧ G'.R c = G.R c ∧ w'.heap[c]? = w.heap[c]?) : StoreR G' w' s := by
 intro b o hb
 obtain ⟨h1, h2, h3⟩ := h b o hb
 obtain ⟨k1, k2, k3⟩ := hsh b h1
 refine ⟨k1, k2.trans h2, ?_⟩
 cases o with
 | cells cs =>
  obtain ⟨c, t, h4, h5, h6⟩ := h3
  exact ⟨c, t, k3.trans h4, h5.mono hv (fun b' j hb' => hcell b b' j h1 hb'), h6⟩
 | map es =>
  obtain ⟨ents, clock, h4, h5, h6⟩ := h3
  exact ⟨ents, clock, k3.trans h4, h5, fun j x y hx hy => ⟨hv _ _ (h6 j x y hx hy).1, hv _ _ (h6 j x y hx hy).2⟩⟩
theorem StoreR.mono {s : Store} (h : StoreR G w s) (hg : GoodW G w) (hp : Pres G w G' w')
  (hsh : ∀ b, G.O b = .sh → G'.O b = .sh ∧ G'.R b = G.R b ∧ w'.heap[b]? = w.heap[b]?)
  (hcell : ∀ b c j, G.O b = .sh → G.O c = .cell b j → G'.O c = .cell b j ∧ G'.R c = G.R c ∧ w'.heap[c]? = w.heap[c]?) : StoreR G' w' s :=
 h.mono' (fun _ _ hv => hp.vr hg hv) hsh hcell
theorem GoodW.lt (h : GoodW G w) {b : Nat} (ho : G.O b ≠ .none) : b < w.heap.size := by
  rcases Nat.lt_or_ge b w.heap.size with hb | hb
  · exact hb
  · exact absurd (h.newO b hb) ho
theorem alloc_facts (hg : GoodW G w) (ob : Obj) (o : Owner) (r : Nat) :
    GoodW (G.upd w.heap.size o r) (w.alloc ob) ∧ Pres G w (G.upd w.heap.size o r) (w.alloc ob) ∧
    (∀ b, G.O b ≠ .none → (G.upd w.heap.size o r).O b = G.O b ∧ (G.upd w.heap.size o r).R b = G.R b ∧ (w.alloc ob).heap[b]? = w.heap[b]?) := by
  have hsz : (w.alloc ob).heap.size = w.heap.size + 1 := Array.size_push ..
  refine ⟨⟨fun b hb => ?_, fun b hb => ?_⟩, ⟨rfl, rfl, rfl, Nat.le_refl _, by omega, fun b hb => ?_, fun b k hb _ => ?_, fun b hb _ => heap_alloc_old w ob b hb, fun b hb ho => ?_, fun b hb ho => ?_⟩, fun b ho => ?_⟩
  · have : b ≠ w.heap.size := by omega
    simp [this, hg.newO b (by omega)]
  · have : b ≠ w.heap.size := by omega
    simp [this, hg.newR b (by omega)]
  · have : b ≠ w.heap.size := by omega
    simp [this]
  · exact World.cell?_of_block (heap_alloc_old w ob b hb)
  · have : b ≠ w.heap.size := by omega
    simp [this, ho]
  · have : b ≠ w.heap.size := by omega
    simp [this, ho]
  · have hb := hg.lt ho
    have : b ≠ w.heap.size := by omega
    exact ⟨by simp [this], by simp [this], heap_alloc_old w ob b hb⟩
theorem alloc_store {s : Store} (h : StoreR G w s) (hg : GoodW G w) (ob : Obj) (o : Owner) (r : Nat) : StoreR (G.upd w.heap.size o r) (w.alloc ob) s := by
  obtain ⟨_, h2, h3⟩ := alloc_facts hg ob o r
  refine h.mono hg h2 (fun b hb => ?_) (fun b c j _ hc => ?_)
  · obtain ⟨k1, k2, k3⟩ := h3 b (by rw [hb]; simp)
    exact ⟨k1.trans hb, k2, k3⟩
  · obtain ⟨k1, k2, k3⟩ := h3 c (by rw [hc]; simp)
    exact ⟨k1.trans hc, k2, k3⟩
theorem Inv.alloc (h : Inv G n D σ a w) (ob : Obj) (o : Owner) (r : Nat) {s' : Store} (d : Option Nat) (hd : dstOK n d = true) (av : AV) (v : Value) (lp' : List (Nat × Nat))
    (hst : StoreR (G.upd w.heap.size o r) (w.alloc ob) s')
    (hlp : ∀ x ∈ σ.lp, x ∈ lp') (hlpn : ∀ i t, d = some i → holdsLp av t → (i, t) ∈ lp')
    (hfree : ∀ i t, d = some i → (∃ cs, av = .loc cs) → (t, i) ∉ σ.lp)
    (hnew : ∀ i, d = some i → ValS (G.upd w.heap.size o r) (w.alloc ob) ((σ.put d av).e) (a.put d v).tmps i av v) :
    Inv (G.upd w.heap.size o r) n D { (σ.put d av) with s := s', lp := lp' } (a.put d v) (w.alloc ob) ∧ Pres G w (G.upd w.heap.size o r) (w.alloc ob) := by
  obtain ⟨h1, h2, h3⟩ := alloc_facts h.good ob o r
  refine ⟨h.put d (fun i hi => by subst hi; simpa [dstOK] using hd) av v h1 h2 hst hlp hlpn hfree (fun i b _ hb => h3 b ?_) (fun i b c j _ hb hc => ?_) hnew, h2⟩
  · rcases hb with ⟨j, hb⟩ | hb <;> rw [hb] <;> simp
  · obtain ⟨k1, k2, k3⟩ := h3 c (by rw [hc]; simp)
    exact ⟨k1.trans hc, k2, k3⟩
theorem StoreR.get_none (h : StoreR G w σ.s) (hg : GoodW G w) : σ.s w.heap.size = none := by
 cases hs : σ.s w.heap.size with
 | none => rfl
 | some o =>
  have := (h _ _ hs).1
  rw [hg.newO _ (Nat.le_refl _)] at this
  cases this
theorem lpFree_spec {lp : List (Nat × Nat)} {d : Option Nat} (h : lpFree lp d = true) : ∀ i t, d = some i → (t, i) ∉ lp := by
 intro i t hd hm
 subst hd
 simp only [lpFree, List.all_eq_true] at h
 have := h _ hm
 simp at this
theorem wp_value {o : Oper} {v : Value} {next : Act → World → Prop} {Q : Exit → Act → World → Prop} (hr : (execOp a.eval o).run P w = .ok (.value v) w') (hn : next (a.put o.dst v) w') : o.wp P a w next Q := by
 unfold Oper.wp
 rw [hr]
 exact hn
theorem wp_skip' {o : Oper} {next : Act → World → Prop} {Q : Exit → Act → World → Prop} (hr : (execOp a.eval o).run P w = .ok .skip w') (hn : next (a.put o.dst undef) w') : o.wp P a w next Q := by
 unfold Oper.wp
 rw [hr]
 exact hn
theorem Inv.reabs (h : Inv G n D σ a w) (i : Nat) (hi : i < n) (av : AV) (hnl : ∀ t, ¬ holdsLp av t) (hnloc : ∀ cs, av ≠ .loc cs)
  (hv : ∀ v, a.tmps[i]? = some v → ValS G w ((σ.put (some i) av).e) a.tmps i av v) : Inv G n D (σ.put (some i) av) a w := by
 have hlt : i < a.tmps.size := by rw [h.size]; exact hi
 have ha : a.put (some i) a.tmps[i] = a := by
  have : a.tmps.setIfInBounds i a.tmps[i] = a.tmps := by
   rw [Array.setIfInBounds, dif_pos hlt, Array.set_getElem_self]
  simp [Act.put, this]
 have := h.put (some i) (fun j hj => by injection hj with hj; subst hj; exact hi) av a.tmps[i] h.good (Pres.refl G w) h.store (fun x hx => hx) (fun j t _ ht => (hnl t ht).elim)
  (fun j t _ ⟨cs, hcs⟩ => (hnloc cs hcs).elim) (fun _ b _ _ => ⟨rfl, rfl, rfl⟩) (fun _ b c j _ _ hc => ⟨hc, rfl, rfl⟩)
  (fun j hj => by injection hj with hj; subst hj; rw [ha]; exact hv _ (Array.getElem?_eq_getElem hlt))
 rw [ha] at this
 exact this
theorem not_holdsLp {av : AV} (h : isV av = true) (t : Nat) : ¬ holdsLp av t := by cases av <;> simp_all [isV, holdsLp]
theorem not_loc {av : AV} (h : isV av = true) (cs : List AV) : av ≠ .loc cs := by cases av <;> simp_all [isV]
theorem Inv.lt_of (h : Inv G n D σ a w) {i : Nat} (hi : look σ.e i ≠ .undef) : i < n := by
  rcases Nat.lt_or_ge i n with hlt | hge
  · exact hlt
  · exact absurd (h.dom i hge) hi
theorem chkX_tmp {o : Operand} {i : Nat} (h : chkX o (.t i) = true) : o = .tmp i := by
 cases o with
 | tmp t => simp [chkX] at h; rw [h]
 | const v => cases v <;> simp [chkX] at h
 | _ => simp [chkX] at h
theorem chkX_own {o : Operand} {c : AV} (h : chkX o (.c c) = true) (G : Gh) (w : World) (T : Owner) : OwnR G w T c (a.eval o) := by
  cases o with
  | tmp t => simp [chkX] at h
  | global g => simp [chkX] at h
  | func f => cases c <;> first | trivial | (simp [chkX] at h)
  | const v =>
    show OwnR G w T c v
    have hc : (∃ cs, c = .agg cs) ∨ cR v c = true := by
      cases v <;> first | exact .inr h | skip
      cases c <;> first | exact .inl ⟨_, rfl⟩ | exact .inr h
    rcases hc with ⟨cs, rfl⟩ | hc
    · trivial
    · exact cR_own hc G w T
theorem Inv.drain (h : Inv G n D σ a w) {x : IX} {o : Operand} (hx : chkX o x = true) (hi : isV (σ.x x) = true) (T : Owner) (hT1 : T ≠ .sh) (hT2 : ∀ i, T ≠ .loc i) :
    ∃ G', Inv G' n D (σ.drain x) a w ∧ Pres G w G' w ∧ VR w G'.R (σ.x x) (a.eval o) ∧ OwnR G' w T (σ.x x) (a.eval o) ∧ G'.R = G.R ∧ (∀ b, G'.O b = .sh ↔ G.O b = .sh) ∧ (∀ b i, G'.O b = .loc i ↔ G.O b = .loc i) ∧
      (∀ b b' j, G.O b = .cell b' j → G'.O b = .cell b' j) := by
  have hvr : VR w G.R (σ.x x) (a.eval o) := by
    have := XR.of_inv h hx
    generalize σ.x x = av at hi this
    cases av <;> first | exact this | (simp [isV] at hi)
  cases x with
  | c c =>
    refine ⟨G, h, Pres.refl G w, hvr, ?_, rfl, fun _ => Iff.rfl, fun _ _ => Iff.rfl, fun _ _ _ hc => hc⟩
    exact chkX_own hx G w T
  | t i =>
    have hin : i < n := h.lt_of (fun e => by rw [show σ.x (.t i) = look σ.e i from rfl, e] at hi; cases hi)
    have ho : o = .tmp i := chkX_tmp hx
    subst ho
    have hlt : i < a.tmps.size := by rw [h.size]; exact hin
    have hcur := h.slots i _ (eval_some hlt)
    have hi' : isV (look σ.e i) = true := hi
    rw [ValS.of_isV hi'] at hcur
    have hne : ∀ b, G.O b ≠ .slot i 0 → (G.retag (.slot i 0) T).O b = G.O b := fun b hb => by simp [hb]
    have hpres : Pres G w (G.retag (.slot i 0) T) w := ⟨rfl, rfl, rfl, Nat.le_refl _, Nat.le_refl _, fun _ _ => Nat.le_refl _, fun _ _ _ _ => rfl, fun _ _ _ => rfl,
      fun b _ hb => ⟨by rw [hne b (by rw [hb]; simp), hb], rfl⟩, fun b _ hb => ⟨by rw [hne b (by rw [hb]; simp), hb], rfl⟩⟩
    refine ⟨G.retag (.slot i 0) T, ?_, hpres, hvr, ?_, rfl, fun b => ?_, fun b k => ?_, fun b b' j hb => by rw [hne b (by rw [hb]; simp), hb]⟩
    · have h1 := h.reabs i hin (view (look σ.e i)) (not_holdsLp (isV_view hi')) (not_loc (isV_view hi')) (fun v hv => by
        rw [eval_some hlt] at hv; injection hv with hv; subst hv
        exact ValS.mk_view hi' hcur.1)
      refine ⟨⟨fun b hb => by rw [hne b (by rw [h.good.newO b hb]; simp), h.good.newO b hb], h.good.newR⟩, ?_, h1.size, fun k v hk => ?_, h1.dom, h1.lps, h1.def0⟩
      · exact h.store.mono h.good hpres (fun b hb => ⟨by rw [hne b (by rw [hb]; simp), hb], rfl, rfl⟩) (fun b c j _ hc => ⟨by rw [hne c (by rw [hc]; simp), hc], rfl, rfl⟩)
      · have h2 := h1.slots k v hk
        by_cases hki : k = i
        · subst hki
          have e1 : look (σ.put (some k) (view (look σ.e k))).e k = view (look σ.e k) := by simp [St.put, look_cons]
          show ValS _ w _ _ k (look (σ.put (some k) (view (look σ.e k))).e k) v
          rw [e1] at h2 ⊢
          rw [ValS.of_isV (isV_view hi')] at h2 ⊢
          exact ⟨h2.1, OwnR.view ..⟩
        · refine ValS.frame (G := G) (G' := G.retag (.slot i 0) T) (w := w) (fun _ _ hv => hv) (fun b hb => ⟨hne b ?_, rfl, rfl⟩) (fun b c j _ hc => ⟨by rw [hne c (by rw [hc]; simp), hc], rfl, rfl⟩) _ _ (fun d _ cs hcs => ⟨cs, hcs, rfl⟩) h2
          rcases hb with ⟨j, hb⟩ | hb
          · rw [hb]; intro e; injection e with e; exact hki e
          · rw [hb]; simp
    · have := hcur.2
      show OwnR _ w T (look σ.e i) _
      unfold OwnR at this ⊢
      split
      · rename_i sz m cs he
        rw [he] at this
        intro base m' cap hv hc
        obtain ⟨b, off, c, e, fz, q1, q2, q3⟩ := this base m' cap hv hc
        exact ⟨b, off, c, e, fz, q1, by simp [q2], q3⟩
      · rename_i e m cs he
        rw [he] at this
        intro base m' cap hv hc
        obtain ⟨b, off, c, fz, q1, q2, q3⟩ := this base m' cap hv hc
        exact ⟨b, off, c, fz, q1, by simp [q2], q3⟩
      · trivial
    · by_cases hb : G.O b = .slot i 0
      · simp [hb, hT1]
      · rw [hne b hb]
    · by_cases hb : G.O b = .slot i 0
      · simp [hb, hT2]
      · rw [hne b hb]
def Eff (P : Program) (G : Gh) (n : Nat) (D : List Deferred) (w : World) (a : Act) (op : Op) (ty : TypeId) (d : Option Nat) (K : St → Prop) : Prop :=
 ∀ (pos : String) (after : Array Edge) (g : Option (Nat × Bool)) (next : Act → World → Prop) (Q : Exit → Act → World → Prop),
  (∀ G' σ' a' w', Inv G' n D σ' a' w' → Pres G w G' w' → K σ' → next a' w') → (⟨d, op, ty, pos, after, g⟩ : Oper).wp P a w next Q
theorem eff_mov (h : Inv G n D σ a w) {op : Op} {ty : TypeId} {tr : Bool} {x : IX} {d : Option Nat} {K : St → Prop} (hd : dstOK n d = true) (hc : chkOp P op ty (.mov tr x) = true) (hw : iwp P (.mov tr x) d σ K) : Eff P G n D w a op ty d K := by
  obtain ⟨hi, hk⟩ := hw
  have key : ∀ y, chkX y x = true → ∃ G', Inv G' n D ((σ.drain x).put d (σ.x x)) (a.put d (a.eval y)) w ∧ Pres G w G' w := by
    intro y hy
    obtain ⟨G', h1, h2, h3, h4, _⟩ := h.drain hy hi (match d with | some d => .slot d 0 | none => .frame) (by cases d <;> simp) (by cases d <;> simp)
    refine ⟨G', ?_, h2⟩
    have := h1.put (s' := (σ.drain x).s) (lp' := (σ.drain x).lp) d (fun i hi => by subst hi; simpa [dstOK] using hd) (σ.x x) (a.eval y) h1.good (Pres.refl G' w) h1.store (fun _ hx => hx) (fun i t _ ht => (not_holdsLp hi t ht).elim) (fun i t _ ⟨cs, hcs⟩ => (not_loc hi cs hcs).elim)
      (fun _ _ _ _ => ⟨rfl, rfl, rfl⟩) (fun _ _ _ _ _ _ hcc => ⟨hcc, rfl, rfl⟩) (fun i hdi => by
        subst hdi
        rw [ValS.of_isV hi]
        exact ⟨h3, h4⟩)
    cases d <;> exact this
  intro pos after g next Q hn
  cases op <;> first | (simp [chkOp] at hc; done) | skip
  · rename_i y
    obtain ⟨G', h1, h2⟩ := key y hc
    exact wp_value rfl (hn G' _ _ _ h1 h2 hk)
  · rename_i y
    obtain ⟨G', h1, h2⟩ := key y hc
    exact wp_value rfl (hn G' _ _ _ h1 h2 hk)
theorem cellsR_of_cR {G : Gh} {w : World} {o : Nat → Owner} {z : List AV} {c : Array Value} (h : Row w G.R z c) (h2 : ∀ (j : Nat) (x : AV) (u : Value), z[j]? = some x → c[j]? = some u → cR u x = true) : CellsR G w o z c :=
 ⟨h.1, fun j x y hx hy => ⟨h.2.1 j x y hx hy, cR_own (h2 j x y hx hy) G w _⟩⟩
theorem cellsR_of_views {G : Gh} {w : World} {o : Nat → Owner} {z : List AV} {c : Array Value} (h : Row w G.R z c) : CellsR G w o (views z) c :=
 ⟨h.views.1, fun j x y hx hy => ⟨h.views.2.1 j x y hx hy, by
  rw [views_get] at hx
  cases hz : z[j]? with
  | none => rw [hz] at hx; cases hx
  | some x' => rw [hz] at hx; simp at hx; rw [← hx]; exact OwnR.view ..⟩⟩
theorem Row.mono {R R' : Nat → Nat} {z : List AV} {c : Array Value} (h : Row w R z c) (hv : ∀ a v, VR w R a v → VR w' R' a v) : Row w' R' z c := ⟨h.1, fun j x y hx hy => hv _ _ (h.2.1 j x y hx hy), h.2.2⟩
theorem Inv.newL (h : Inv G n D σ a w) {d : Option Nat} (hd : dstOK n d = true) (hf : lpFree σ.lp d = true) {cs : List AV} {c : Array Value} {t : TypeId}
  (hcs : ∀ (G' : Gh) (w' : World) (o : Nat → Owner), Pres G w G' w' → CellsR G' w' o cs c) (hfl : Fl cs) :
  ∃ G', Inv G' n D (σ.put d (.loc cs)) (a.put d (.pointer (some ⟨w.heap.size, 0, none⟩))) (w.alloc (.cells c t)) ∧ Pres G w G' (w.alloc (.cells c t)) := by
 let o : Owner := match d with | some d => .loc d | none => .none
 have hp := (alloc_facts h.good (.cells c t) o 0).2.1
 obtain ⟨h1, h2⟩ := h.alloc (.cells c t) o 0 d hd (.loc cs) (.pointer (some ⟨w.heap.size, 0, none⟩)) σ.lp (alloc_store h.store h.good _ o 0) (fun _ hx => hx) (fun i t' _ ht => ht.elim) (fun i t' hi _ => lpFree_spec hf i t' hi)
  (fun i hi => by
   subst hi
   exact ⟨w.heap.size, c, t, rfl, by simp [o], by simp, heap_alloc_new w _, hcs _ _ _ hp, hfl⟩)
 exact ⟨_, by cases d <;> exact h1, h2⟩
theorem Inv.newST (h : Inv G n D σ a w) {d : Option Nat} (hd : dstOK n d = true) {cs : List AV} {c : Array Value} {t : TypeId} {av : AV} {v : Value} (hav : av = .ref w.heap.size 0 ∧ v = .pointer (some ⟨w.heap.size, 0, none⟩) ∨ ∃ l m, av = .arr w.heap.size 0 l m ∧ v = .slice (some ⟨w.heap.size, 0, none⟩) l m)
    (hcs : ∀ (G' : Gh) (w' : World) (o : Nat → Owner), Pres G w G' w' → CellsR G' w' o cs c) (hfl : FlT t cs) :
    ∃ G', Inv G' n D ({ σ with s := σ.s.set w.heap.size (.cells cs) }.put d av) (a.put d v) (w.alloc (.cells c t)) ∧ Pres G w G' (w.alloc (.cells c t)) := by
  have hp := (alloc_facts h.good (.cells c t) .sh 0).2.1
  have hs : StoreR (G.upd w.heap.size .sh 0) (w.alloc (.cells c t)) (σ.s.set w.heap.size (.cells cs)) := by
    intro b o hb
    unfold Store.set at hb
    by_cases he : b = w.heap.size
    · rw [if_pos he] at hb
      injection hb with hb
      subst hb; subst he
      exact ⟨by simp, by simp, c, t, heap_alloc_new w _, hcs _ _ _ hp, hfl⟩
    · rw [if_neg he] at hb
      exact alloc_store h.store h.good _ .sh 0 b o hb
  have hv : isV av = true ∧ VR (w.alloc (.cells c t)) (G.upd w.heap.size .sh 0).R av v ∧ ∀ sz m cs, av ≠ .sl true sz m cs := by
    rcases hav with ⟨rfl, rfl⟩ | ⟨l, m, rfl, rfl⟩
    · exact ⟨rfl, .ref _ _, by simp⟩
    · exact ⟨rfl, .arr _ _ _ _, by simp⟩
  obtain ⟨h1, h2⟩ := h.alloc (.cells c t) .sh 0 d hd av v σ.lp hs (fun _ hx => hx) (fun i t' _ ht => (not_holdsLp hv.1 t' ht).elim) (fun i t' _ ⟨cs', hcs'⟩ => (not_loc hv.1 cs' hcs').elim)
    (fun i hi => by
      rw [ValS.of_isV hv.1]
      refine ⟨hv.2.1, ?_⟩
      rcases hav with ⟨e, _⟩ | ⟨l, m, e, _⟩ <;> rw [e] <;> trivial)
  refine ⟨_, ?_, h2⟩
  cases d <;> exact h1
theorem Inv.newS (h : Inv G n D σ a w) {d : Option Nat} (hd : dstOK n d = true) {cs : List AV} {c : Array Value} {t : TypeId} {av : AV} {v : Value} (hav : av = .ref w.heap.size 0 ∧ v = .pointer (some ⟨w.heap.size, 0, none⟩) ∨ ∃ l m, av = .arr w.heap.size 0 l m ∧ v = .slice (some ⟨w.heap.size, 0, none⟩) l m)
  (hcs : ∀ (G' : Gh) (w' : World) (o : Nat → Owner), Pres G w G' w' → CellsR G' w' o cs c) (hfl : Fl cs) :
  ∃ G', Inv G' n D ({ σ with s := σ.s.set w.heap.size (.cells cs) }.put d av) (a.put d v) (w.alloc (.cells c t)) ∧ Pres G w G' (w.alloc (.cells c t)) := h.newST hd hav hcs (hfl.tag t)
theorem eff_alloc (h : Inv G n D σ a w) {op : Op} {ty : TypeId} {z : List AV} {d : Option Nat} {K : St → Prop} (hd : dstOK n d = true) :
    (chkOp P op ty (.allocL z) = true → iwp P (.allocL z) d σ K → Eff P G n D w a op ty d K) ∧ (chkOp P op ty (.allocS z) = true → iwp P (.allocS z) d σ K → Eff P G n D w a op ty d K) := by
  have run : ∀ t, zeroIs P t z = true → ∃ c : Array Value, (∀ (dst : Option Tmp) (pos : String) (after : Array Edge) (g : Option (Nat × Bool)), (execOp a.eval ⟨dst, .alloc t, ty, pos, after, g⟩).run P w = .ok (.value (.pointer (some ⟨w.heap.size, 0, none⟩))) (w.alloc (.cells c t))) ∧
      (∀ (G' : Gh) (w' : World) (o : Nat → Owner), CellsR G' w' o z c) ∧ Fl z := by
    intro t hz
    obtain ⟨i, v, h1, h2, _, h4, h5⟩ := zeroIs_eq hz
    refine ⟨v.cells, fun _ _ _ _ => ?_, fun G' w' o => cellsR_of_cR (h4 w' G'.R) h5, (h4 w G.R).2.2⟩
    simp [execOp, Instr.alloc, zeroValue, typeInfo, h1, h2, newVar, newRow]
  constructor
  · intro hc hw pos after g next Q hn
    cases op <;> first | (simp [chkOp] at hc; done) | skip
    rename_i t
    obtain ⟨c, hr, hcs, hfl⟩ := run t hc
    obtain ⟨G', h1, h2⟩ := h.newL hd hw.1 (c := c) (t := t) (fun G' w' o _ => hcs G' w' o) hfl
    exact wp_value (hr d pos after g) (hn G' _ _ _ h1 h2 hw.2)
  · intro hc hw pos after g next Q hn
    cases op <;> first | (simp [chkOp] at hc; done) | skip
    rename_i t
    obtain ⟨c, hr, hcs, hfl⟩ := run t hc
    obtain ⟨G', h1, h2⟩ := h.newS hd (c := c) (t := t) (.inl ⟨rfl, rfl⟩) (fun G' w' o _ => hcs G' w' o) hfl
    exact wp_value (hr d pos after g) (hn G' _ _ _ h1 h2 (hw w.heap.size (h.store.get_none h.good)))
theorem eff_box (h : Inv G n D σ a w) {op : Op} {ty : TypeId} {m : Nat} {x : IX} {d : Option Nat} {K : St → Prop} (hd : dstOK n d = true) :
    (chkOp P op ty (.boxL m x) = true → iwp P (.boxL m x) d σ K → Eff P G n D w a op ty d K) ∧ (chkOp P op ty (.boxS m x) = true → iwp P (.boxS m x) d σ K → Eff P G n D w a op ty d K) := by
  have run : ∀ t y, ∀ (dst : Option Tmp) (pos : String) (after : Array Edge) (g : Option (Nat × Bool)), (execOp a.eval ⟨dst, .box t y, ty, pos, after, g⟩).run P w = .ok (.value (.pointer (some ⟨w.heap.size, 0, none⟩))) (w.alloc (.cells (a.eval y).cells t)) := by
    intro t y _ _ _ _
    simp [execOp, Instr.box, newVar, newRow]
  have cells : ∀ y, chkX y x = true → isV (σ.x x) = true → (∀ (G' : Gh) (w' : World) (o : Nat → Owner), Pres G w G' w' → CellsR G' w' o (views (cellsOf (σ.x x))) (a.eval y).cells) ∧ Fl (views (cellsOf (σ.x x))) := by
    intro y hy hi
    have hvr : VR w G.R (σ.x x) (a.eval y) := by
      have := XR.of_inv h hy
      generalize σ.x x = av at hi this
      cases av <;> first | exact this | (simp [isV] at hi)
    exact ⟨fun G' w' o hp => cellsR_of_views ((cellsOf_row hi hvr).mono fun _ _ hv => hp.vr h.good hv), (cellsOf_row hi hvr).2.2.views⟩
  have cells2 : ∀ y, chkX y x = true → isV (xg true σ x) = true → (∀ (G' : Gh) (w' : World) (o : Nat → Owner), Pres G w G' w' → CellsR G' w' o (views (cellsOf (xg true σ x))) (a.eval y).cells) ∧ Fl (views (cellsOf (xg true σ x))) := by
    intro y hy hi
    have hvr : VR w G.R (xg true σ x) (a.eval y) := (BR.of_inv h hy).vr hi
    exact ⟨fun G' w' o hp => cellsR_of_views ((cellsOf_row hi hvr).mono fun _ _ hv => hp.vr h.good hv), (cellsOf_row hi hvr).2.2.views⟩
  constructor
  · intro hc hw pos after g next Q hn
    cases op <;> first | (simp [chkOp] at hc; done) | skip
    rename_i t y
    simp only [chkOp, Bool.and_eq_true] at hc
    obtain ⟨hf, hi, _, hk⟩ := hw
    obtain ⟨G', h1, h2⟩ := h.newL hd hf (t := t) (cells y hc.2 hi).1 (cells y hc.2 hi).2
    exact wp_value (run t y d pos after g) (hn G' _ _ _ h1 h2 hk)
  · intro hc hw pos after g next Q hn
    cases op <;> first | (simp [chkOp] at hc; done) | skip
    rename_i t y
    simp only [chkOp, Bool.and_eq_true] at hc
    obtain ⟨hi, _, hk⟩ := hw
    obtain ⟨G', h1, h2⟩ := h.newS hd (t := t) (.inl ⟨rfl, rfl⟩) (cells2 y hc.2 hi).1 (cells2 y hc.2 hi).2
    exact wp_value (run t y d pos after g) (hn G' _ _ _ h1 h2 (hk w.heap.size (h.store.get_none h.good)))
end
end Go.AB
end

section
namespace Go.AB
open Go
section
variable {P : Program} {G G' : Gh} {n : Nat} {D : List Deferred} {σ : St} {a : Act} {w w' : World}
theorem oneCell_of_flat {R : Nat → Nat} {c : AV} {v : Value} (hf : flatV c = true) (h : VR w R c v) : v.oneCell' = true := by
 cases h <;> first | rfl | assumption | (simp [flatV, isV] at hf; done) | (rename_i h _; cases h <;> rfl)
theorem oneCell_of_flatT {t : Nat} {R : Nat → Nat} {c : AV} {v : Value} (hf : flatV c = true ∨ c = .btag t) (h : VR w R c v) : v.oneCell' = true := by
  rcases hf with hf | rfl
  · exact oneCell_of_flat hf h
  · cases h; rfl
theorem run_storeCells_free (g o : Nat) (t : TypeId) (fz : Nat × Nat) : ∀ (vs : List Value) (i : Nat) (cur : Array Value) (w : World), w.heap[g]? = some (.cells cur t fz) → (∀ k, k < cur.size → ¬ (fz.1 ≤ k ∧ k < fz.2)) → o + i + vs.length ≤ cur.size → (∀ v ∈ vs, v.oneCell' = true) →
    (storeCells ⟨g, o, none⟩ vs i).run P w = .ok () (w.setRow g (cur.toList.take (o + i) ++ vs ++ cur.toList.drop (o + i + vs.length)).toArray)
  | [], i, cur, w, hg, _, _, _ => by
    simp only [storeCells, List.append_nil, List.length_nil, Nat.add_zero, List.take_append_drop, Array.toArray_toList]
    rw [setRow_self w g cur t fz hg]
    rfl
  | v :: rest, i, cur, w, hg, hfz, hl, h1 => by
    have hi : o + i < cur.size := by simp at hl; omega
    have hcell : w.cell? ⟨g, o + i, none⟩ = some cur[o + i] := by simp [World.cell?, hg, hi]
    have hfro : w.frozen? ⟨g, o + i, none⟩ = false := by
      have := hfz (o + i) hi
      obtain ⟨lo, hh⟩ := fz
      simp only [World.frozen?, hg]
      simp only at this
      by_cases h1 : lo ≤ o + i
      · have : ¬ (o + i < hh) := fun h2 => this ⟨h1, h2⟩
        simp [this]
      · simp [h1]
    have hst : (store ((⟨g, o, none⟩ : Addr).add i) v).run P w = .ok () (w.setRow g (cur.setIfInBounds (o + i) v)) := by
      rw [add_eq, run_store P w _ v _ (h1 v (by simp)), hcell]
      simp [hfro, setCell_eq_setRow w g (o + i) cur t fz v hg]
    have ih := run_storeCells_free g o t fz rest (i + 1) (cur.setIfInBounds (o + i) v) (w.setRow g (cur.setIfInBounds (o + i) v)) (setRow_heap w g cur _ t _ hg) (by simpa using hfz) (by simp at hl ⊢; omega) (fun x hx => h1 x (by simp [hx]))
    simp only [storeCells, Sem.run_bind, hst, Result.andThen_ok, ih, setRow_setRow]
    congr 3
    have e := list_seg_step cur.toList (o + i) v rest (by simp at hl ⊢; omega)
    simpa [Array.toList_setIfInBounds, Nat.add_assoc] using e
def laid (cur : Array Value) (o : Nat) (vs : List Value) : Array Value := (cur.toList.take o ++ vs ++ cur.toList.drop (o + vs.length)).toArray
theorem laid_size (cur : Array Value) (o : Nat) (vs : List Value) (h : o + vs.length ≤ cur.size) : (laid cur o vs).size = cur.size := by simp [laid]; omega
theorem laid_get (cur : Array Value) (o : Nat) (vs : List Value) (h : o + vs.length ≤ cur.size) (k : Nat) : (laid cur o vs)[k]? = if o ≤ k ∧ k < o + vs.length then vs[k - o]? else cur[k]? := by
  unfold laid
  simp only [List.getElem?_toArray]
  rw [List.append_assoc]
  by_cases h1 : k < o
  · rw [if_neg (by omega), List.getElem?_append_left (by simp; omega), List.getElem?_take, if_pos h1]; simp
  · have hl : (cur.toList.take o).length = o := by simp; omega
    rw [List.getElem?_append_right (by omega), hl]
    by_cases h2 : k < o + vs.length
    · rw [if_pos ⟨by omega, h2⟩, List.getElem?_append_left (by omega)]
    · rw [if_neg (by omega), List.getElem?_append_right (by omega), List.getElem?_drop]
      simp only [Array.getElem?_toList]
      congr 1
      omega
theorem setRow_cell {g : Nat} {cur : Array Value} {t : TypeId} {fz : Nat × Nat} (hg : w.heap[g]? = some (.cells cur t fz)) (new : Array Value) (b k : Nat) : (w.setRow g new).cell? ⟨b, k, none⟩ = if b = g then new[k]? else w.cell? ⟨b, k, none⟩ := by
  by_cases h : b = g
  · subst h
    rw [if_pos rfl, cell_of_row _ (setRow_heap w b cur new t fz hg)]
  · rw [if_neg h]
    exact World.cell?_of_block (setRow_other w g b new h)
theorem Pres.write {g : Nat} {cur new : Array Value} {t : TypeId} {fz : Nat × Nat} (hg : w.heap[g]? = some (.cells cur t fz)) (ho : G.O g ≠ .frame ∧ G.O g ≠ .none) (hst : ∀ k, k < G.R g → new[k]? = cur[k]?)
    (hR : G.R g ≤ G'.R g) (hO : ∀ b, b ≠ g → G'.O b = G.O b ∧ G'.R b = G.R b) : Pres G w G' (w.setRow g new) where
  os := rfl
  tape := rfl
  output := rfl
  drawn := Nat.le_refl _
  size := by simp [World.setRow]
  mono := fun b _ => by
    by_cases h : b = g
    · subst h; exact hR
    · rw [(hO b h).2]; exact Nat.le_refl _
  stable := fun b k _ hk => by
    rw [setRow_cell hg]
    split
    · rename_i h; subst h
      rw [hst k hk, cell_of_row w hg]
    · rfl
  frame := fun b _ hb => by
    have : b ≠ g := fun e => by subst e; rcases hb with hb | hb; exact ho.1 hb; exact ho.2 hb
    exact setRow_other w g b new this
  frameO := fun b _ hb => by
    have : b ≠ g := fun e => by subst e; exact ho.1 hb
    exact ⟨(hO b this).1.trans hb, (hO b this).2⟩
  noneO := fun b _ hb => by
    have : b ≠ g := fun e => by subst e; exact ho.2 hb
    exact ⟨(hO b this).1.trans hb, (hO b this).2⟩
theorem Inv.written (h : Inv G n D σ a w) {g : Nat} {c new : Array Value} {t : TypeId} (hg : w.heap[g]? = some (.cells c t (0, 0))) (ho : (∃ i, G.O g = .loc i) ∨ G.O g = .sh) (hR : G.R g = 0) {σ' : St} (hlp : σ'.lp = σ.lp)
    (hst : StoreR G (w.setRow g new) σ'.s)
    (he : ∀ k, (look σ'.e k = look σ.e k ∧ G.O g ≠ .loc k) ∨ (G.O g = .loc k ∧ a.tmps[k]? = some (.pointer (some ⟨g, 0, none⟩)) ∧ ∃ cs cs', look σ.e k = .loc cs ∧ look σ'.e k = .loc cs' ∧ CellsR G (w.setRow g new) (.cell g) cs' new ∧ Fl cs')) :
    Inv G n D σ' a (w.setRow g new) ∧ Pres G w G (w.setRow g new) := by
  have hog : G.O g ≠ .frame ∧ G.O g ≠ .none ∧ (∀ i j, G.O g ≠ .slot i j) ∧ (∀ i j, G.O g ≠ .cell i j) := by rcases ho with ⟨i, ho⟩ | ho <;> rw [ho] <;> simp
  have hpres : Pres G w G (w.setRow g new) := Pres.write hg ⟨hog.1, hog.2.1⟩ (fun k hk => by rw [hR] at hk; omega) (Nat.le_refl _) (fun _ _ => ⟨rfl, rfl⟩)
  have hother : ∀ b, G.O b ≠ G.O g → (w.setRow g new).heap[b]? = w.heap[b]? := fun b hb => setRow_other w g b new (fun e => hb (by rw [e]))
  refine ⟨⟨⟨fun b hb => h.good.newO b (by simpa [World.setRow] using hb), fun b hb => h.good.newR b (by simpa [World.setRow] using hb)⟩, hst, h.size, fun k v hk => ?_, fun k hk => ?_, fun k d hd => ?_, h.def0⟩, hpres⟩
  · have hs := h.slots k v hk
    rcases he k with ⟨e, hnk⟩ | ⟨hgk, htm, cs, cs', e1, e2, e3, e4⟩
    · rw [e]
      refine ValS.frame (G := G) (G' := G) (fun _ _ hv => hpres.vr h.good hv) (fun b hb => ⟨rfl, rfl, hother b ?_⟩) (fun b c' j _ hc => ⟨hc, rfl, hother c' ?_⟩) _ _ (fun d _ ds hds => ?_) hs
      · rcases hb with ⟨j, hb⟩ | hb
        · rw [hb]; exact fun e => hog.2.2.1 _ _ e.symm
        · rw [hb]; exact fun e => hnk e.symm
      · rw [hc]; exact fun e => hog.2.2.2 _ _ e.symm
      · rcases he d with ⟨e', _⟩ | ⟨_, _, ds', _, e1', _⟩
        · exact ⟨ds, by rw [← e']; exact hds, rfl⟩
        · exact ⟨ds', e1', rfl⟩
    · rw [e2]
      have hv : v = .pointer (some ⟨g, 0, none⟩) := by rw [htm] at hk; exact (Option.some.inj hk).symm
      exact ⟨g, new, t, hv, hgk, hR, setRow_heap w g c new t _ hg, e3, e4⟩
  · rcases he k with ⟨e, _⟩ | ⟨_, _, cs, _, e1, _⟩
    · rw [e]; exact h.dom k hk
    · rw [h.dom k hk] at e1; cases e1
  · rw [hlp]
    rcases he k with ⟨e, _⟩ | ⟨_, _, cs, cs', _, e2, _⟩
    · rw [e] at hd; exact h.lps k d hd
    · rw [e2] at hd; exact hd.elim
theorem CellsR.lay {g off : Nat} {cs news : List AV} {c : Array Value} {vs : List Value} {t : TypeId} {fz : Nat × Nat} (hg : w.heap[g]? = some (.cells c t fz)) (hpres : Pres G w G (w.setRow g (laid c off vs))) (hgood : GoodW G w)
    (hc : CellsR G w (.cell g) cs c) (hl : vs.length = news.length) (hfit : off + news.length ≤ cs.length) (hne : ∀ j, G.O g ≠ .cell g j)
    (hn : ∀ (j : Nat) (x : AV) (y : Value), news[j]? = some x → vs[j]? = some y → VR w G.R x y ∧ OwnR G w (.cell g (off + j)) x y) :
    CellsR G (w.setRow g (laid c off vs)) (.cell g) (setAt cs off news) (laid c off vs) := by
  have hfit' : off + vs.length ≤ c.size := by rw [hl, hc.1]; exact hfit
  refine ⟨by rw [laid_size _ _ _ hfit', setAt_len _ _ _ hfit, hc.1], fun j x y hx hy => ?_⟩
  rw [setAt_get _ _ _ _ hfit] at hx
  rw [laid_get _ _ _ hfit'] at hy
  have mono : ∀ o : Nat, OwnR G w (.cell g o) x y → OwnR G (w.setRow g (laid c off vs)) (.cell g o) x y := fun o ho => ho.mono fun b hb => ⟨hb, rfl, setRow_other w g b _ (fun e => by subst e; exact hne _ hb)⟩
  by_cases hj : off ≤ j ∧ j < off + news.length
  · rw [if_pos hj] at hx
    rw [if_pos (by omega)] at hy
    obtain ⟨h1, h2⟩ := hn (j - off) x y hx hy
    have : off + (j - off) = j := by omega
    rw [this] at h2
    exact ⟨hpres.vr hgood h1, mono j h2⟩
  · rw [if_neg hj] at hx
    rw [if_neg (by omega)] at hy
    obtain ⟨h1, h2⟩ := hc.2 j x y hx hy
    exact ⟨hpres.vr hgood h1, mono j h2⟩
theorem stCells_fl {av : AV} {v : Value} (hi : isV av = true) (h : VR w G.R av v) : Fl (stCells av) ∧ v.cells.toList.length = (stCells av).length ∧ (∀ (j : Nat) (x : AV) (y : Value), (stCells av)[j]? = some x → v.cells.toList[j]? = some y → VR w G.R x y) ∧
  (∀ y ∈ v.cells.toList, y.oneCell' = true) := by
 have hr := cellsOf_row hi h
 have hrow : Row w G.R (stCells av) v.cells := by
  cases av <;> first | exact hr | exact hr.views
 refine ⟨hrow.2.2, by simpa using hrow.1, fun j x y hx hy => hrow.2.1 j x y hx (by simpa using hy), fun y hy => ?_⟩
 obtain ⟨j, hj⟩ := List.mem_iff_getElem?.1 hy
 have hjl : j < (stCells av).length := by rw [← hrow.1]; have := (List.getElem?_eq_some_iff.1 hj).1; simpa using this
 have hx := List.getElem?_eq_getElem hjl
 exact oneCell_of_flat (hrow.2.2 _ (List.getElem_mem hjl)) (hrow.2.1 j _ y hx (by simpa using hj))
theorem run_storeVar {t : TypeId} {m : Nat} (hs : sizeIs P t m = true) {g off : Nat} {c : Array Value} {et : TypeId} (hg : w.heap[g]? = some (.cells c et (0, 0))) {v : Value} (hm : v.cells.size = m) (hfit : off + m ≤ c.size) (h1 : ∀ y ∈ v.cells.toList, y.oneCell' = true) :
  (storeVar t ⟨g, off, none⟩ v).run P w = .ok () (w.setRow g (laid c off v.cells.toList)) := by
 have := run_storeCells_free (P := P) g off et (0, 0) v.cells.toList 0 c w hg (fun k _ hk => by simp at hk) (by simp [hm]; omega) h1
 simp only [storeVar, Sem.run_bind, run_sizeOf hs, Result.andThen_ok]
 rw [if_neg (by simp [hm])]
 simpa [laid] using this
theorem wrCells_eq {off : Nat} {news old cs : List AV} (h : wrCells off news old = some cs) : off + news.length ≤ old.length ∧ cs = setAt old off news := by
  unfold wrCells at h
  by_cases hl : off + news.length ≤ old.length
  · rw [decide_eq_true hl] at h; injection h with h; exact ⟨hl, h.symm⟩
  · rw [decide_eq_false hl] at h; cases h
theorem look_drain {v : IX} (hi : isV (σ.x v) = true) {k : Nat} {cs : List AV} (h : look (σ.drain v).e k = .loc cs) : look σ.e k = .loc cs := by
  cases v with
  | c _ => exact h
  | t i =>
    simp only [St.drain, St.put, look_cons] at h
    split at h
    · have := not_loc (isV_view (show isV (look σ.e i) = true from hi)) cs
      exact absurd h this
    · exact h
theorem look_drain' {v : IX} (hi : isV (σ.x v) = true) {k : Nat} {cs : List AV} (h : look σ.e k = .loc cs) : look (σ.drain v).e k = .loc cs := by
  cases v with
  | c _ => exact h
  | t i =>
    simp only [St.drain, St.put, look_cons]
    split
    · rename_i e; subst e
      rw [show σ.x (.t i) = look σ.e i from rfl, h] at hi
      cases hi
    · exact h
theorem eff_store (h : Inv G n D σ a w) {op : Op} {ty : TypeId} {m : Nat} {p v : IX} {d : Option Nat} {K : St → Prop} (hd : dstOK n d = true) (hc : chkOp P op ty (.store m p v) = true) (hw : iwp P (.store m p v) d σ K) : Eff P G n D w a op ty d K := by
  cases op <;> first | (simp [chkOp] at hc; done) | skip
  rename_i t q u
  simp only [chkOp, Bool.and_eq_true] at hc
  obtain ⟨⟨hs, hq⟩, hu⟩ := hc
  obtain ⟨hi, hm, hk⟩ := hw
  have hvr : VR w G.R (σ.x v) (a.eval u) := by
    have := XR.of_inv h hu
    generalize σ.x v = av at hi this
    cases av <;> first | exact this | (simp [isV] at hi)
  -- the target
  have target : ∃ g off old, a.eval q = .pointer (some ⟨g, off, none⟩) ∧
      ((∃ i, look σ.e i = .loc old ∧ a.tmps[i]? = some (.pointer (some ⟨g, 0, none⟩)) ∧ wrSt (σ.drain v) (σ.x p) p (stCells (σ.x v)) = wrL (σ.drain v) i (wrCells off (stCells (σ.x v)) old)) ∨
       (σ.s g = some (.cells old) ∧ wrSt (σ.drain v) (σ.x p) p (stCells (σ.x v)) = wrS (σ.drain v) g (wrCells off (stCells (σ.x v)) old))) := by
    have hb := XR.of_inv h hq
    cases hp : σ.x p with
    | loc old =>
      rw [hp] at hb
      obtain ⟨i, b, c, t', e1, e2, e3, e4, _⟩ := hb
      refine ⟨b, 0, old, e4, .inl ⟨i, e2, by rw [e3, e4], ?_⟩⟩
      subst e1; rfl
    | lp d0 off =>
      rw [hp] at hb hk
      obtain ⟨b, e1, e2⟩ := hb
      have hk' : stK d K (wrLoc (σ.drain v) d0 off (stCells (σ.x v)) (look (σ.drain v).e d0)) := hk
      cases hl : look (σ.drain v).e d0 <;> rw [hl] at hk' <;> first | exact hk'.elim | skip
      rename_i old
      have hl' := look_drain hi hl
      exact ⟨b, off, old, e1, .inl ⟨d0, hl', e2 old hl', by show wrLoc _ _ _ _ (look (σ.drain v).e d0) = _; rw [hl]; rfl⟩⟩
    | ref b off =>
      rw [hp] at hb hk
      have e1 := VR.inv_ref hb
      have hk' : stK d K (wrSO (σ.drain v) b off (stCells (σ.x v)) ((σ.drain v).s b)) := hk
      have hs' : (σ.drain v).s = σ.s := by cases v <;> rfl
      rw [hs'] at hk'
      cases hl : σ.s b with
      | none => rw [hl] at hk'; exact hk'.elim
      | some so =>
        cases so with
        | map es => rw [hl] at hk'; exact hk'.elim
        | cells old => exact ⟨b, off, old, e1, .inr ⟨hl, by show wrSO _ _ _ _ ((σ.drain v).s b) = _; rw [hs', hl]; rfl⟩⟩
    | _ => rw [hp] at hk; exact hk.elim
  obtain ⟨g, off, old, e1, htar⟩ := target
  obtain ⟨G1, h1, hp1, hv1, hown1, hR1, hsh, hloc, hcell⟩ := h.drain hu hi (.cell g off) (by simp) (by simp)
  obtain ⟨hfl, hlen, hvals, hone⟩ := stCells_fl hi hv1
  have hown : ∀ (x : AV) (y : Value), (stCells (σ.x v))[0]? = some x → (a.eval u).cells.toList[0]? = some y → OwnR G1 w (.cell g (off + 0)) x y := by
    intro x y hx hy
    cases hv : σ.x v with
    | agg cs =>
      rw [hv] at hx
      simp only [stCells] at hx
      rw [views_get] at hx
      cases hc0 : cs[0]? with
      | none => rw [hc0] at hx; cases hx
      | some c0 => rw [hc0] at hx; simp at hx; rw [← hx]; exact OwnR.view ..
    | sl o s l cs =>
      rw [hv] at hx hown1 hv1
      simp [stCells] at hx
      subst hx
      have : (a.eval u).cells = #[a.eval u] := by rcases VR.inv_sl hv1 with ⟨(e | ⟨_, _, _, e⟩), _⟩ | ⟨_, _, _, e, _⟩ <;> rw [e] <;> rfl
      rw [this] at hy
      simp at hy
      subst hy
      exact hown1
    | bb t l cs =>
      rw [hv] at hx hown1 hv1
      simp [stCells] at hx
      subst hx
      have hv1' : VR w G1.R (.sl true 1 l cs) (a.eval u) := by cases hv1; assumption
      have : (a.eval u).cells = #[a.eval u] := by rcases VR.inv_sl hv1' with ⟨(e | ⟨_, _, _, e⟩), _⟩ | ⟨_, _, _, e, _⟩ <;> rw [e] <;> rfl
      rw [this] at hy
      simp at hy
      subst hy
      exact hown1
    | _ => rw [hv] at hx; simp [stCells] at hx; subst hx; trivial
  have hown' : ∀ (j : Nat) (x : AV) (y : Value), (stCells (σ.x v))[j]? = some x → (a.eval u).cells.toList[j]? = some y → VR w G1.R x y ∧ OwnR G1 w (.cell g (off + j)) x y := by
    intro j x y hx hy
    refine ⟨hvals j x y hx hy, ?_⟩
    cases j with
    | zero => exact hown x y hx hy
    | succ j =>
      cases hv : σ.x v with
      | agg cs =>
        rw [hv] at hx
        simp only [stCells] at hx
        rw [views_get] at hx
        cases hc0 : cs[j + 1]? with
        | none => rw [hc0] at hx; cases hx
        | some c0 => rw [hc0] at hx; simp at hx; rw [← hx]; exact OwnR.view ..
      | _ => rw [hv] at hx; simp [stCells] at hx
  have hlen' : (a.eval u).cells.toList.length = m := by rw [hlen, hm]
  have hput : ∀ (τ : St) (w' : World), Inv G1 n D τ a w' → Inv G1 n D (τ.put d (.tup [])) (a.put d undef) w' := by
    intro τ w' hτ
    have := hτ.put (s' := τ.s) (lp' := τ.lp) d (fun i hi => by subst hi; simpa [dstOK] using hd) (.tup []) undef hτ.good (Pres.refl G1 w') hτ.store (fun _ hx => hx) (fun i t _ ht => ht.elim) (fun i t _ ⟨cs, hcs⟩ => by cases hcs)
      (fun _ _ _ _ => ⟨rfl, rfl, rfl⟩) (fun _ _ _ _ _ _ hcc => ⟨hcc, rfl, rfl⟩) (fun i hdi => ⟨#[], rfl, rfl, fun j x y hx => by simp at hx⟩)
    cases d <;> exact this
  rcases htar with ⟨i, e2, e3, e4⟩ | ⟨e2, e4⟩
  · -- a local block
    rw [e4] at hk
    cases hwr : wrCells off (stCells (σ.x v)) old with
    | none => rw [hwr] at hk; exact hk.elim
    | some cs' =>
      rw [hwr] at hk
      obtain ⟨hfit, rfl⟩ := wrCells_eq hwr
      have e2' : look (σ.drain v).e i = .loc old := look_drain' hi e2
      have hslot := h1.slots i _ e3
      rw [e2'] at hslot
      obtain ⟨b, c, t', q1, q2, q3, q4, q5, q6⟩ := hslot
      injection q1 with q1; injection q1 with q1; injection q1 with q1 _ _
      subst q1
      have hne : ∀ j, G1.O g ≠ .cell g j := fun j => by rw [q2]; simp
      have hfit' : off + (a.eval u).cells.toList.length ≤ c.size := by rw [hlen, q5.1]; exact hfit
      have hrun := run_storeVar (P := P) hs q4 (v := a.eval u) (by simpa using hlen') (by rw [← hlen']; exact hfit') hone
      have hpres : Pres G1 w G1 (w.setRow g (laid c off (a.eval u).cells.toList)) := Pres.write q4 (by rw [q2]; simp) (fun k hk => by rw [q3] at hk; omega) (Nat.le_refl _) (fun _ _ => ⟨rfl, rfl⟩)
      have hcells := CellsR.lay q4 hpres h1.good q5 hlen hfit hne hown'
      obtain ⟨h2, _⟩ := h1.written (σ' := (σ.drain v).put (some i) (.loc (setAt old off (stCells (σ.x v))))) q4 (.inl ⟨i, q2⟩) q3 rfl
        (h1.store.mono h1.good hpres (fun b hb => ⟨hb, rfl, setRow_other w g b _ (fun e => by subst e; rw [q2] at hb; cases hb)⟩) (fun b c j _ hc => ⟨hc, rfl, setRow_other w g c _ (fun e => by subst e; rw [q2] at hc; cases hc)⟩))
        (fun k => by
          by_cases hki : i = k
          · subst hki
            exact .inr ⟨q2, e3, old, _, e2', by simp [St.put, look_cons], hcells, Fl.setAt q6 hfl off⟩
          · refine .inl ⟨by simp [St.put, look_cons, hki], ?_⟩
            rw [q2]; intro e; injection e with e; exact hki e)
      intro pos after gd next Q hn
      exact wp_skip' (w' := w.setRow g (laid c off (a.eval u).cells.toList)) (by simp [execOp, e1, Instr.storeAt, Instr.sureAddr, hrun]) (hn G1 _ _ _ (hput _ _ h2) (hp1.trans hpres) hk)
  · -- a shared block
    rw [e4] at hk
    cases hwr : wrCells off (stCells (σ.x v)) old with
    | none => rw [hwr] at hk; exact hk.elim
    | some cs' =>
      rw [hwr] at hk
      obtain ⟨hfit, rfl⟩ := wrCells_eq hwr
      have hs' : (σ.drain v).s = σ.s := by cases v <;> rfl
      obtain ⟨q2, q3, c, t', q4, q5, q6⟩ := h1.store g (.cells old) (by rw [hs']; exact e2)
      have hne : ∀ j, G1.O g ≠ .cell g j := fun j => by rw [q2]; simp
      have hfit' : off + (a.eval u).cells.toList.length ≤ c.size := by rw [hlen, q5.1]; exact hfit
      have hrun := run_storeVar (P := P) hs q4 (v := a.eval u) (by simpa using hlen') (by rw [← hlen']; exact hfit') hone
      have hpres : Pres G1 w G1 (w.setRow g (laid c off (a.eval u).cells.toList)) := Pres.write q4 (by rw [q2]; simp) (fun k hk => by rw [q3] at hk; omega) (Nat.le_refl _) (fun _ _ => ⟨rfl, rfl⟩)
      have hcells := CellsR.lay q4 hpres h1.good q5 hlen hfit hne hown'
      have hst : StoreR G1 (w.setRow g (laid c off (a.eval u).cells.toList)) ((σ.drain v).s.set g (.cells (setAt old off (stCells (σ.x v))))) := by
        intro b o hb
        unfold Store.set at hb
        by_cases hbg : b = g
        · rw [if_pos hbg] at hb; injection hb with hb; subst hb; subst hbg
          exact ⟨q2, q3, _, t', setRow_heap w b c _ t' _ q4, hcells, FlT.setAt q6 hfl off⟩
        · rw [if_neg hbg] at hb
          obtain ⟨r1, r2, r3⟩ := h1.store b o hb
          refine ⟨r1, r2, ?_⟩
          have hbk := setRow_other w g b (laid c off (a.eval u).cells.toList) hbg
          cases o with
          | cells cs =>
            obtain ⟨c0, t0, r4, r5, r6⟩ := r3
            exact ⟨c0, t0, hbk.trans r4, r5.mono (fun _ _ hv => hpres.vr h1.good hv) (fun b' j hb' => ⟨hb', rfl, setRow_other w g b' _ (fun e => by subst e; rw [q2] at hb'; cases hb')⟩), r6⟩
          | map es =>
            obtain ⟨ents, clock, r4, r5, r6⟩ := r3
            exact ⟨ents, clock, hbk.trans r4, r5, fun j x y hx hy => ⟨hpres.vr h1.good (r6 j x y hx hy).1, hpres.vr h1.good (r6 j x y hx hy).2⟩⟩
      obtain ⟨h2, _⟩ := h1.written (σ' := { σ.drain v with s := (σ.drain v).s.set g (.cells (setAt old off (stCells (σ.x v)))) }) q4 (.inr q2) q3 rfl hst
        (fun k => .inl ⟨rfl, by rw [q2]; simp⟩)
      intro pos after gd next Q hn
      exact wp_skip' (w' := w.setRow g (laid c off (a.eval u).cells.toList)) (by simp [execOp, e1, Instr.storeAt, Instr.sureAddr, hrun]) (hn G1 _ _ _ (hput _ _ h2) (hp1.trans hpres) hk)
end
end Go.AB
end

section
namespace Go.AB
open Go
section
variable {P : Program} {G G' : Gh} {n : Nat} {D : List Deferred} {σ : St} {a : Act} {w w' : World}
theorem Inv.newSl (h : Inv G n D σ a w) {d : Option Nat} (hd : dstOK n d = true) {sz m cap : Nat} {cs : List AV} {c : Array Value} {t : TypeId} {ob : Owner} {own : Bool} (hob : ∀ i, d = some i → ob = .slot i 0) (hobn : d = none → ob = .none)
    (hl : cs.length = m * sz) (hcap : m ≤ cap) (hsz : c.size = cap * sz) (hfl : Fl cs)
    (hcs : ∀ (j : Nat) (x : AV), cs[j]? = some x → ∃ y, c[j]? = some y ∧ VR w G.R x y) (fz : Nat × Nat) (hfz : (∀ k, k < c.size → ¬ (fz.1 ≤ k ∧ k < fz.2)) ∧ fz.1 ≤ fz.2) (hz0 : own = true → fz = (0, 0) ∨ (0 < m ∧ ∃ x, c[0]? = some (.int .u8 x))) (hsp : ∀ (k : Nat) (y : Value), m * sz ≤ k → c[k]? = some y → y.oneCell' = true) :
    ∃ G', Inv G' n D (σ.put d (.sl own sz m cs)) (a.put d (.slice (some ⟨w.heap.size, 0, none⟩) m cap)) (w.alloc (.cells c t fz)) ∧ Pres G w G' (w.alloc (.cells c t fz)) := by
  have hp := (alloc_facts h.good (.cells c t fz) ob cs.length).2.1
  obtain ⟨h1, h2⟩ := h.alloc (.cells c t fz) ob cs.length d hd (.sl own sz m cs) (.slice (some ⟨w.heap.size, 0, none⟩) m cap) σ.lp (alloc_store h.store h.good _ ob cs.length) (fun _ hx => hx) (fun i t' _ ht => ht.elim)
    (fun i t' _ ⟨cs', hcs'⟩ => by cases hcs')
    (fun i hi => by
      refine ⟨?_, ?_⟩
      · refine .sl own sz m cs w.heap.size 0 cap (fun j => c.getD j undef) hfl hl (by simp) hcap (fun j x hj => ?_) (fun j x hj => ?_)
        · obtain ⟨y, hy, _⟩ := hcs j x hj
          rw [Nat.zero_add, cell_of_row _ (heap_alloc_new w _), hy]
          simp [Array.getD_eq_getD_getElem?, hy]
        · obtain ⟨y, hy, hv⟩ := hcs j x hj
          have : c.getD j undef = y := by simp [Array.getD_eq_getD_getElem?, hy]
          rw [this]
          exact hp.vr h.good hv
      · cases own with
        | false => trivial
        | true =>
        intro base m' cap' hv hc
        injection hv with e1 e2 e3
        subst e3
        exact ⟨w.heap.size, 0, c, t, fz, e1.symm, by simp [hob i hi], by simp [hl], heap_alloc_new w _, by rw [hsz, Nat.zero_add], hfz.1, hfz.2, rfl, hz0 rfl, fun k y hk => hsp k y (by omega)⟩)
  exact ⟨_, by cases d <;> exact h1, h2⟩
theorem flatten_rep (l : List Value) : ∀ (m : Nat), ((List.replicate m l).flatten) = ((List.range (m * l.length)).map fun i => l.getD (i % l.length) undef) := by
  intro m
  apply List.ext_getElem?
  intro j
  rcases Nat.eq_zero_or_pos l.length with h0 | hp
  · have : l = [] := List.eq_nil_of_length_eq_zero h0
    subst this
    simp
  · induction m generalizing j with
    | zero => simp
    | succ m ih =>
      rw [List.replicate_succ, List.flatten_cons]
      by_cases hj : j < l.length
      · rw [List.getElem?_append_left hj, List.getElem?_map, List.getElem?_range (by rw [Nat.add_mul, Nat.one_mul]; omega)]
        simp [Nat.mod_eq_of_lt hj, List.getD_eq_getElem?_getD, List.getElem?_eq_getElem hj]
      · rw [List.getElem?_append_right (by omega), ih, List.getElem?_map, List.getElem?_map]
        by_cases hlt : j < (m + 1) * l.length
        · have h1 : j - l.length < m * l.length := by rw [Nat.add_mul, Nat.one_mul] at hlt; omega
          rw [List.getElem?_range hlt, List.getElem?_range h1]
          simp only [Option.map_some]
          congr 2
          rw [Nat.mod_eq_sub_mod (by omega : l.length ≤ j)]
        · have h1 : ¬ (j - l.length < m * l.length) := by rw [Nat.add_mul, Nat.one_mul] at hlt; omega
          rw [List.getElem?_eq_none (by simp; omega), List.getElem?_eq_none (by simp; omega)]
theorem zero_row (z : Array Value) (m : Nat) : ((Array.range (m * z.size)).map fun i => z[i % z.size]!) = ((List.replicate m z.toList).flatten).toArray := by
  rw [flatten_rep]
  apply Array.ext'
  simp only [Array.toList_map, Array.toList_range, Array.length_toList]
  apply List.map_congr_left
  intro i hi
  have hlt : i < m * z.size := by simpa using hi
  have hz : 0 < z.size := by
    rcases Nat.eq_zero_or_pos z.size with h | h
    · rw [h, Nat.mul_zero] at hlt; omega
    · exact h
  have hm := Nat.mod_lt i hz
  rw [getElem!_pos z (i % z.size) hm]
  simp [List.getD_eq_getElem?_getD, hm]
theorem eff_buildSl (h : Inv G n D σ a w) {op : Op} {ty : TypeId} {sz m : Nat} {z : List AV} {ps : List (Nat × Nat × IX)} {d : Option Nat} {K : St → Prop} (hd : dstOK n d = true) (hc : chkOp P op ty (.buildSl sz m z ps) = true) (hw : iwp P (.buildSl sz m z ps) d σ K) : Eff P G n D w a op ty d K := by
  cases op <;> first | (simp [chkOp] at hc; done) | skip
  rename_i t m' qs
  simp only [chkOp, Bool.and_eq_true, beq_iff_eq] at hc
  obtain ⟨rfl, hc⟩ := hc
  split at hc <;> try (cases hc; done)
  rename_i e ht
  have ht := elemOfSl_eq ht
  simp only [Bool.and_eq_true] at hc
  obtain ⟨⟨⟨⟨hs, hpos⟩, hp⟩, hlim⟩, hz⟩ := hc
  obtain ⟨i, hi, hisz⟩ := sizeIs_eq hs
  rw [hi] at hz
  simp only at hz
  split at hz <;> try (cases hz; done)
  rename_i zv hzv
  simp only [Bool.and_eq_true, beq_iff_eq] at hz
  obtain ⟨hzr, hzs⟩ := hz
  have hpos := of_decide_eq_true hpos
  have hlim := of_decide_eq_true hlim
  have hw' : buildSlW sz m σ d K (fill (xg true σ) z ps) := hw
  cases hfl : fill (xg true σ) z ps with
  | none => rw [hfl] at hw'; exact hw'.elim
  | some ds =>
    rw [hfl] at hw'
    obtain ⟨hlen, hk⟩ := hw'
    obtain ⟨hl, hpa⟩ := partsA_all _ _ hp
    obtain ⟨hz1, hz2⟩ := cRs_get hzr
    have hrow : Row w G.R z ((Array.range (m * sz)).map (zv.cells[· % zv.cells.size]!)) := by
      rw [← hzs, zero_row]
      exact ⟨by simpa using hz1, fun j c u hc hu => cR_vr (hz2 j c u hc (by simpa using hu)) w G.R, cRs_fl hzr⟩
    have hf : ∀ (o : Operand) (x : IX), chkX o x = true → isV (xg true σ x) = true → VR w G.R (xg true σ x) (a.eval o) := fun o x hx hi => by
      have := BR.of_inv h hx
      generalize xg true σ x = av at hi this
      cases av <;> first | exact this | (simp [isV] at hi)
    obtain ⟨us, h1, h2⟩ := fill_sound h hf (fun i => some (i * sz, sz)) qs.toList ps z ds _ ⟨hl, fun j q p hq hp' => by
        obtain ⟨⟨e1, e2⟩, hx⟩ := hpa j q p hq hp'
        exact ⟨by rw [e1, e2], hx⟩⟩ hrow hfl
    obtain ⟨G1, h3, h4⟩ := h.newSl (t := e) (ob := match d with | some i => .slot i 0 | none => .none) hd (fun i hi => by subst hi; rfl) (fun hn => by subst hn; rfl) hlen (Nat.le_refl m) (by rw [h2.1, hlen]) h2.2.2
      (fun j x hx => by
        have hlt : j < us.size := by rw [h2.1]; exact (List.getElem?_eq_some_iff.1 hx).1
        exact ⟨us[j], Array.getElem?_eq_getElem hlt, h2.2.1 j x _ hx (Array.getElem?_eq_getElem hlt)⟩) (0, 0) ⟨fun k _ hk => by simp at hk, Nat.le_refl _⟩ (own := true) (fun _ => .inl rfl) (fun k y hk hy => by
        have := (Array.getElem?_eq_some_iff.1 hy).1
        rw [h2.1, hlen] at this; omega)
    intro pos after gd next Q hn
    refine wp_value ?_ (hn G1 _ _ _ h3 h4 hk)
    by_cases hm0 : m * sz = 0
    · have hm : m = 0 := by
        rcases Nat.mul_eq_zero.1 hm0 with h | h
        · exact h
        · omega
      subst hm
      simp only [Nat.zero_mul] at h1
      have : (Array.range 0).map (zv.cells[· % zv.cells.size]!) = #[] := by simp
      rw [this] at h1
      have hr0 : Array.map (fun _ : Nat => (default : Value)) (Array.range 0) = #[] := by apply Array.ext'; simp
      simp [execOp, Instr.buildSlice, run_underlying ht, run_sizeOf hs, hr0, h1, newRow]
    · have h24 : ¬ (16777216 < m * sz) := by omega
      simp [execOp, Instr.buildSlice, run_underlying ht, run_sizeOf hs, h24, hm0, zeroValue, typeInfo, hi, hzv, h1, newRow]
theorem bytes_fl (s : List UInt8) : Fl (s.map fun c => AV.int .u8 c.toNat) := by
 intro c hc
 simp only [List.mem_map] at hc
 obtain ⟨x, _, rfl⟩ := hc
 rfl
theorem eff_cvtStr (h : Inv G n D σ a w) {op : Op} {ty : TypeId} {x : IX} {d : Option Nat} {K : St → Prop} (hd : dstOK n d = true) (hc : chkOp P op ty (.cvtStr x) = true) (hw : iwp P (.cvtStr x) d σ K) : Eff P G n D w a op ty d K := by
  cases op <;> first | (simp [chkOp] at hc; done) | skip
  rename_i s t y
  simp only [chkOp, Bool.and_eq_true] at hc
  obtain ⟨hy, hc⟩ := hc
  split at hc <;> try (cases hc; done)
  rename_i e hs ht
  split at hc <;> try (cases hc; done)
  rename_i he
  have hb := BR.of_inv h hy
  have hw' : cvtStrW σ d K (xg true σ x) := hw
  generalize xg true σ x = xv at hb hw'
  unfold cvtStrW at hw'
  split at hw' <;> try (exact hw'.elim)
  rename_i ow sz m cs
  obtain ⟨rfl, l, rfl, hk⟩ := hw'
  have hput : Inv G n D (σ.put d (.str l)) (a.put d (.string ⟨l.toArray⟩)) w := by
    have := h.put (s' := σ.s) (lp' := σ.lp) d (fun i hi => by subst hi; simpa [dstOK] using hd) (.str l) (.string ⟨l.toArray⟩) h.good (Pres.refl G w) h.store (fun _ hx => hx) (fun i t _ ht => ht.elim) (fun i t _ ⟨cs, hcs⟩ => by cases hcs)
      (fun _ _ _ _ => ⟨rfl, rfl, rfl⟩) (fun _ _ _ _ _ _ hcc => ⟨hcc, rfl, rfl⟩) (fun i hdi => ⟨.str l, trivial⟩)
    cases d <;> exact this
  intro pos after gd next Q hn
  refine wp_value (v := .string ⟨l.toArray⟩) ?_ (hn G _ _ _ hput (Pres.refl G w) hk)
  rcases VR.inv_sl hb with ⟨e1, _, hl0⟩ | ⟨b, off, cap, e1, hlen, _, _, u, u1, u2, _⟩
  · have : l = [] := by simpa using hl0
    subst this
    rcases e1 with e1 | ⟨_, ad, cap, e1⟩
    · have := run_convert_bytes_nil (P := P) w s e hs he 0 0 t ht
      simp [execOp, e1, this]
      rfl
    · have := run_convert_bytes_empty (P := P) w s e hs he ad cap t ht
      simp [execOp, e1, this]
      rfl
  · have hm : l.length = m := by simpa using hlen
    have := run_convert_bytes_arg (P := P) w s e hs he b off m cap (l.map fun c => (c.toNat : Int)) (by simpa using hm) (fun i hi => by
      have hil : i < l.length := by omega
      have hc0 : (l.map fun c => AV.int .u8 c.toNat)[i]? = some (.int .u8 l[i].toNat) := by simp [hil]
      rw [u1 i _ hc0, VR.inv_int (u2 i _ hc0)]
      simp [List.getD_eq_getElem?_getD, hil]) t ht
    have hs2 : strOfNums (l.map fun c => (c.toNat : Int)) = ⟨l.toArray⟩ := by
      unfold strOfNums
      congr 2
      simp [Function.comp_def]
    rw [hs2] at this
    simp [execOp, e1, this]
theorem Pres.drew (G : Gh) (w : World) : Pres G w G w.drew := ⟨rfl, rfl, rfl, Nat.le_succ _, Nat.le_refl _, fun _ _ => Nat.le_refl _, fun _ _ _ _ => rfl, fun _ _ _ => rfl, fun _ _ h => ⟨h, rfl⟩, fun _ _ h => ⟨h, rfl⟩⟩
theorem Inv.drew (h : Inv G n D σ a w) : Inv G n D σ a w.drew := by
 have hg : GoodW G w.drew := ⟨h.good.newO, h.good.newR⟩
 have := h.put (s' := σ.s) (lp' := σ.lp) none (fun i hi => by cases hi) .undef undef hg (Pres.drew G w) (h.store.mono h.good (Pres.drew G w) (fun _ hb => ⟨hb, rfl, rfl⟩) (fun _ _ _ _ hc => ⟨hc, rfl, rfl⟩)) (fun _ hx => hx) (fun i t hi => by cases hi) (fun i t hi => by cases hi)
  (fun _ _ _ _ => ⟨rfl, rfl, rfl⟩) (fun _ _ _ _ _ _ hcc => ⟨hcc, rfl, rfl⟩) (fun i hi => by cases hi)
 exact this
theorem eff_cvtBytes (h : Inv G n D σ a w) {op : Op} {ty : TypeId} {x : IX} {d : Option Nat} {K : St → Prop} (hd : dstOK n d = true) (hc : chkOp P op ty (.cvtBytes x) = true) (hw : iwp P (.cvtBytes x) d σ K) : Eff P G n D w a op ty d K := by
  cases op <;> first | (simp [chkOp] at hc; done) | skip
  rename_i s t y
  simp only [chkOp, Bool.and_eq_true] at hc
  obtain ⟨hy, hc⟩ := hc
  split at hc <;> try (cases hc; done)
  rename_i e hs ht
  split at hc <;> try (cases hc; done)
  rename_i he
  have hb := BR.of_inv h hy
  have hw' : cvtBytesW σ d K (xg true σ x) := hw
  generalize xg true σ x = xv at hb hw'
  unfold cvtBytesW at hw'
  split at hw' <;> try (exact hw'.elim)
  rename_i l
  have e1 := VR.inv_str hb
  have hk : K (σ.put d (.sl (nonE l) 1 l.length (l.map fun c => .int .u8 c.toNat))) := hw'
  let cap := (Question.appendCap l.length 0 e).cut (w.tape w.drawn (.appendCap l.length 0 e))
  have hcap : l.length ≤ cap := Nat.le_add_right _ _
  let c : Array Value := (l.toArray.map fun b => Value.int .u8 b.toNat) ++ Array.replicate (cap - l.length) (.int .u8 0)
  have hcs : c.size = cap := by simp [c]; omega
  obtain ⟨G1, h3, h4⟩ := (h.drew).newSl (t := e) (c := c) (m := l.length) (cs := l.map fun c => AV.int .u8 c.toNat) (cap := cap) (sz := 1) (ob := match d with | some i => .slot i 0 | none => .none) hd (fun i hi => by subst hi; rfl) (fun hn => by subst hn; rfl) (by simp) hcap (by rw [hcs]; simp) (bytes_fl l)
    (fun j x hx => by
      rw [List.getElem?_map] at hx
      cases hj : l[j]? with
      | none => rw [hj] at hx; cases hx
      | some b0 =>
        rw [hj] at hx; simp at hx
        have hlt : j < l.length := (List.getElem?_eq_some_iff.1 hj).1
        refine ⟨.int .u8 b0.toNat, ?_, by rw [← hx]; exact .int _ _⟩
        have hjb : l[j] = b0 := by simpa [hlt] using hj
        simp [c, Array.getElem?_append, hlt, hjb]) (c.size, c.size + 1) ⟨fun k hk hh => by omega, Nat.le_succ _⟩ (own := nonE l) (fun hne => .inr (by
      cases l with
      | nil => cases hne
      | cons x0 l => exact ⟨Nat.succ_pos _, x0.toNat, by
        show (Array.map _ _ ++ _)[0]? = _
        rw [Array.getElem?_append_left (by simp)]; simp⟩)) (fun k y _ hy => by
      obtain ⟨hk, hy⟩ := Array.getElem?_eq_some_iff.1 hy
      have hm : y ∈ c := by rw [← hy]; exact Array.getElem_mem hk
      rcases Array.mem_append.1 hm with hm | hm
      · obtain ⟨b, _, rfl⟩ := Array.mem_map.1 hm; rfl
      · rw [(Array.mem_replicate.1 hm).2]; rfl)
  intro pos after gd next Q hn
  refine wp_value (w' := (w.drew).alloc (.cells c e (c.size, c.size + 1))) ?_ (hn G1 _ _ _ h3 ((Pres.drew G w).trans h4) hk)
  have hsz : (ByteArray.mk l.toArray).size = l.length := by simp [ByteArray.size]
  have hconv : (Conv.stringToBytes e ⟨l.toArray⟩).run P w = .ok (.slice (some ⟨w.heap.size, 0, none⟩) l.length cap) ((w.drew).alloc (.cells c e (c.size, c.size + 1))) := by
    have hfr : ∀ (w0 : World), (w0.alloc (.cells c e)).freeze { block := w0.heap.size, off := c.size } 1 = w0.alloc (.cells c e (c.size, c.size + 1)) := by
      intro w0
      unfold World.freeze World.alloc
      simp only [Nat.succ_ne_self, if_false]
      congr 1
      apply Array.ext
      · simp
      · intro k h1 h2
        simp only [Array.getElem_modify, Array.getElem_push]
        by_cases hk : k < w0.heap.size
        · have : w0.heap.size ≠ k := by omega
          simp [hk, this]
        · have : k = w0.heap.size := by simp at h1; omega
          subst this
          simp
    have hshape : ((w.drew).alloc (.cells c e)).shape? w.heap.size = some (e, c.size) := by
      unfold World.shape?
      rw [show ((w.drew).alloc (.cells c e)).heap[w.heap.size]? = some (.cells c e) from heap_alloc_new w.drew _]
    simp only [Conv.stringToBytes, Sem.run_bind, run_choose, Question.forced, hsz, Bool.false_eq_true, if_false, Result.andThen_ok, newRow, run_newObj, Sem.run_pure, markStringish, run_shape]
    show ((Sem.run P (match ((w.drew).alloc (.cells c e)).shape? w.heap.size with | some (_, n) => freeze { block := w.heap.size, off := n } 1 | x => pure ()) ((w.drew).alloc (.cells c e))).andThen fun a w' => Result.ok (Value.slice (some { block := w.heap.size, off := 0 }) l.length cap) w') = _
    rw [hshape]
    simp only [run_freeze, Result.andThen_ok]
    exact congrArg _ (hfr w.drew)
  simp [execOp, e1, convert, underlying, hs, ht, he, hconv]
end
end Go.AB
end

section
namespace Go.AB
open Go
section
variable {P : Program} {G G' : Gh} {n : Nat} {D : List Deferred} {σ : St} {a : Act} {w w' : World}
structure Src (P : Program) (w : World) (R : Nat → Nat) (sz m : Nat) (ds : List AV) (v : Value) (news : List Value) : Prop where
 len : news.length = m * sz
 lenD : ds.length = m * sz
 lenOf : ∀ w', (Builtin.lenOf v).run P w' = .ok m w'
 first : ∀ w', w'.heap = w.heap → (Builtin.firstCells sz m v).run P w' = .ok news.toArray w'
 one : ∀ u ∈ news, u.oneCell' = true
 vals : ∀ (j : Nat) (c : AV) (u : Value), ds[j]? = some c → news[j]? = some u → VR w R c u
 fl : Fl ds
theorem cell_heap {w w' : World} (h : w'.heap = w.heap) (a : Addr) : w'.cell? a = w.cell? a := by unfold World.cell?; rw [h]
theorem Src.of_sl {R : Nat → Nat} {o : Bool} {s sz m : Nat} {ds : List AV} {v : Value} (h : VR w R (.sl o s m ds) v) (hs : s = sz ∨ m = 0) : ∃ news, Src P w R sz m (views ds) v news := by
  rcases VR.inv_sl h with ⟨(rfl | ⟨_, ad, cap, rfl⟩), rfl, rfl⟩ | ⟨b, off, cap, rfl, hl, _, _, hat⟩
  · exact ⟨[], by simp, by simp [views], fun _ => rfl, fun w' _ => by simp [Builtin.firstCells], by simp, fun j c u hc => by simp [views] at hc, Fl.nil⟩
  · exact ⟨[], by simp, by simp [views], fun _ => rfl, fun w' _ => by simp [Builtin.firstCells, loadCells, loadCellsFrom], by simp, fun j c u hc => by simp [views] at hc, Fl.nil⟩
  · have hlen : (views ds).length = m * sz := by
      rcases hs with rfl | rfl
      · simp [views, hl]
      · simp only [views, List.length_map, hl]; omega
    have hatv := hat.views
    obtain ⟨us, h1, h2, h3⟩ := hatv.vals
    have hfl : Fl (views ds) := by obtain ⟨_, _, _, hf⟩ := hatv; exact hf
    refine ⟨us, by rw [h1, hlen], hlen, fun _ => rfl, fun w' hw' => ?_, fun u hu => ?_, h3, hfl⟩
    · exact run_firstCells_some w' sz m ⟨b, off, none⟩ m cap us (by rw [h1, hlen]) fun j v hj => by rw [cell_heap hw']; exact h2 j v hj
    · obtain ⟨j, hj⟩ := List.mem_iff_getElem?.1 hu
      have hlt : j < (views ds).length := by rw [← h1]; exact (List.getElem?_eq_some_iff.1 hj).1
      have hx := List.getElem?_eq_getElem hlt
      exact oneCell_of_flat (hfl _ (List.getElem_mem hlt)) (h3 j _ u hx hj)
theorem Src.of_str {R : Nat → Nat} {l : List UInt8} : Src P w R 1 l.length (l.map fun c => .int .u8 c.toNat) (.string ⟨l.toArray⟩) (l.map fun c => .int .u8 c.toNat) where
 len := by simp
 lenD := by simp
 lenOf := fun w' => by simp [Builtin.lenOf, ByteArray.size]
 first := fun w' _ => by
  have : (ByteArray.mk l.toArray).extract 0 l.length = ⟨l.toArray⟩ := by
   apply ByteArray.ext
   rw [ByteArray.data_extract]
   simp
  simp [Builtin.firstCells, this]
 one := fun u hu => by
  simp only [List.mem_map] at hu
  obtain ⟨x, _, rfl⟩ := hu
  rfl
 vals := fun j c u hc hu => by
  rw [List.getElem?_map] at hc hu
  cases hj : l[j]? with
  | none => rw [hj] at hc; cases hc
  | some x => rw [hj] at hc hu; simp at hc hu; rw [← hc, ← hu]; exact .int _ _
 fl := bytes_fl l
section runs
variable {t t' ty e : TypeId} {i : TypeInfo} {z : Value} {sz m : Nat} {ds : List AV} {v : Value} {news : List Value}
theorem run_app_stay (ht : P.underlying t = some (.slice e)) (ht' : (∃ e', P.underlying t' = some (.slice e')) ∨ P.underlying t' = some .string) (hi : P.info? e = some i) (hsz : i.size = sz) {R : Nat → Nat} (hs : Src P w R sz m ds v news) {b off k cap : Nat}
  (hroom : k + m ≤ cap) {w' : World} (hst : (storeCells ⟨b, off + k * sz, none⟩ news).run P w = .ok () w') :
  (Builtin.append_ #[t, t'] ty #[.slice (some ⟨b, off, none⟩) k cap, v]).run P w = .ok (.slice (some ⟨b, off, none⟩) (k + m) cap) w' := by
 subst hsz
 have h1 := hs.lenOf w
 have h2 := hs.first w rfl
 rcases ht' with ⟨e', ht'⟩ | ht' <;>
  simp [Builtin.append_, run_underlying ht, run_underlying ht', sizeOf, typeInfo, hi, h1, hroom, h2, add_eq, hst]
theorem run_app_nil0 (ht : P.underlying t = some (.slice e)) (ht' : (∃ e', P.underlying t' = some (.slice e')) ∨ P.underlying t' = some .string) (hi : P.info? e = some i) (hsz : i.size = sz) {R : Nat → Nat} (hs : Src P w R sz 0 ds v news) :
  (Builtin.append_ #[t, t'] ty #[.slice none 0 0, v]).run P w = .ok (.slice none 0 0) w := by
 subst hsz
 have h1 := hs.lenOf w
 have h2 := hs.first w rfl
 rcases ht' with ⟨e', ht'⟩ | ht' <;>
  simp [Builtin.append_, run_underlying ht, run_underlying ht', sizeOf, typeInfo, hi, h1, h2]
theorem run_app_grow (ht : P.underlying t = some (.slice e)) (ht' : (∃ e', P.underlying t' = some (.slice e')) ∨ P.underlying t' = some .string) (hi : P.info? e = some i) (hz : i.zero = some z) (hsz : i.size = sz) {R : Nat → Nat} (hs : Src P w R sz m ds v news) {base : Option Addr} {k cap : Nat} {olds : List Value}
  (hold : (Builtin.firstCells sz k (.slice base k cap)).run P w.drew = .ok olds.toArray w.drew) (hroom : cap < k + m) (hbytes : (k + m) * i.bytes ≤ room) (hb0 : 0 < i.bytes) :
  (Builtin.append_ #[t, t'] ty #[.slice base k cap, v]).run P w = .ok (.slice (some ⟨w.heap.size, 0, none⟩) (k + m) (grownCap w (k + m) cap e))
   (w.drew.alloc (.cells (olds.toArray ++ news.toArray ++ Builtin.zeroCells z.cells (grownCap w (k + m) cap e - (k + m))) e)) := by
 subst hsz
 have h1 := hs.lenOf w
 have h2 := hs.first w.drew rfl
 have h3 : ¬ (k + m ≤ cap) := by omega
 have h4 : ¬ (281474976710656 < Builtin.nextslicecap (k + m) cap * i.bytes) := by have := growslice_fits hroom hbytes; omega
 have h5 : k + m ≤ (k + m) * i.bytes := Nat.le_mul_of_pos_right _ hb0
 have h6 : ¬ ((9223372036854775807 : Int) < (k : Int) + m) := by unfold room at hbytes; omega
 rcases ht' with ⟨e', ht'⟩ | ht' <;>
  simp [Builtin.append_, run_underlying ht, run_underlying ht', sizeOf, typeInfo, zeroValue, hi, hz, h1, h3, h4, h6, Question.forced, hold, h2, newRow, grownCap] <;>
  (congr 2; apply Array.ext'; simp [List.append_assoc])
end runs
theorem Inv.grown (h : Inv G n D σ a w) {d : Option Nat} (hd : dstOK n d = true) {b off sz k m cap : Nat} {c : Array Value} {t : TypeId} {fz : Nat × Nat} {cs ds : List AV} {v : Value} {news : List Value} {R : Nat → Nat}
    (hb : w.heap[b]? = some (.cells c t fz)) (hfz : (∀ j, j < c.size → ¬ (fz.1 ≤ j ∧ j < fz.2)) ∧ fz.1 ≤ fz.2) (hof : off = 0) (hz0 : fz = (0, 0) ∨ (0 < k ∧ 0 < sz ∧ ∃ x, c[0]? = some (.int .u8 x))) (hsp : ∀ (i : Nat) (y : Value), off + k * sz ≤ i → c[i]? = some y → y.oneCell' = true) (ho : ∀ i, d = some i → G.O b = .slot i 0) (hon : G.O b ≠ .none ∧ G.O b ≠ .frame ∧ G.O b ≠ .sh ∧ (∀ i, G.O b ≠ .loc i) ∧ (∀ i j, G.O b ≠ .cell i j) ∧ (∀ i j, G.O b = .slot i j → d = some i ∧ j = 0))
    (hR : G.R b = off + k * sz) (hsz : c.size = off + cap * sz) (hcap : k + m ≤ cap) (hlc : cs.length = k * sz) (hat : At w G.R b off cs) (hs : Src P w R sz m ds v news) (hRR : R = G.R) :
    ∃ G', Inv G' n D (σ.put d (.sl true sz (k + m) (cs ++ ds))) (a.put d (.slice (some ⟨b, off, none⟩) (k + m) cap)) (w.setRow b (laid c (off + k * sz) news)) ∧ Pres G w G' (w.setRow b (laid c (off + k * sz) news)) := by
  subst hRR
  have hfit : off + k * sz + news.length ≤ c.size := by
    rw [hs.len, hsz, Nat.add_assoc, ← Nat.add_mul]
    exact Nat.add_le_add_left (Nat.mul_le_mul_right _ hcap) _
  let G' := G.upd b (G.O b) (off + (k + m) * sz)
  have hmul : (k + m) * sz = k * sz + m * sz := Nat.add_mul ..
  have hpres : Pres G w G' (w.setRow b (laid c (off + k * sz) news)) := Pres.write hb ⟨hon.2.1, hon.1⟩
    (fun j hj => by rw [hR] at hj; rw [laid_get _ _ _ hfit, if_neg (by omega)]) (by simp only [G', Gh.upd_R, if_true, hR, hmul]; omega) (fun b' hb' => by simp [G', hb'])
  have hgood : GoodW G' (w.setRow b (laid c (off + k * sz) news)) := by
    have hlt : b < w.heap.size := h.good.lt hon.1
    refine ⟨fun b' hb' => ?_, fun b' hb' => ?_⟩
    · have hb'' : w.heap.size ≤ b' := by simpa [World.setRow] using hb'
      have : b' ≠ b := by omega
      simp [G', this, h.good.newO b' hb'']
    · have hb'' : w.heap.size ≤ b' := by simpa [World.setRow] using hb'
      have : b' ≠ b := by omega
      simp [G', this, h.good.newR b' hb'']
  have same : ∀ b', b' ≠ b → G'.O b' = G.O b' ∧ G'.R b' = G.R b' ∧ (w.setRow b (laid c (off + k * sz) news)).heap[b']? = w.heap[b']? := fun b' hb' => ⟨by simp [G', hb'], by simp [G', hb'], setRow_other w b b' _ hb'⟩
  have hst := h.store.mono h.good hpres (fun b' hb' => by
      obtain ⟨q1, q2, q3⟩ := same b' (fun e => by subst e; exact hon.2.2.1 hb')
      exact ⟨q1.trans hb', q2, q3⟩) (fun b' c' j _ hc' => by
      obtain ⟨q1, q2, q3⟩ := same c' (fun e => by subst e; exact hon.2.2.2.2.1 _ _ hc')
      exact ⟨q1.trans hc', q2, q3⟩)
  have := h.put (s' := σ.s) (lp' := σ.lp) d (fun i hi => by subst hi; simpa [dstOK] using hd) (.sl true sz (k + m) (cs ++ ds)) (.slice (some ⟨b, off, none⟩) (k + m) cap) hgood hpres hst (fun _ hx => hx) (fun i t _ ht => ht.elim) (fun i t _ ⟨cs', hcs'⟩ => by cases hcs')
    (fun i b' hdi hb' => same b' (fun e => by
      subst e
      rcases hb' with ⟨j, hb'⟩ | hb'
      · exact hdi (hon.2.2.2.2.2 i j hb').1
      · exact hon.2.2.2.1 _ hb'))
    (fun i b' c' j hdi hb' hc' => by
      obtain ⟨q1, q2, q3⟩ := same c' (fun e => by subst e; exact hon.2.2.2.2.1 _ _ hc')
      exact ⟨q1.trans hc', q2, q3⟩)
    (fun i hi => by
      obtain ⟨u, u1, u2, u3⟩ := hat
      subst hi
      refine ⟨?_, ?_⟩
      · have hll : (cs ++ ds).length = (k + m) * sz := by rw [List.length_append, hlc, hs.lenD, hmul]
        refine .sl true sz (k + m) (cs ++ ds) b off cap (fun j => if j < k * sz then u j else news.getD (j - k * sz) undef) (fun x hx => ?_) hll (by rw [hll]; simp [G']) hcap (fun j x hj => ?_) (fun j x hj => ?_)
        · rcases List.mem_append.1 hx with hx | hx
          · exact u3 x hx
          · exact hs.fl x hx
        · rw [setRow_cell hb, if_pos rfl, laid_get _ _ _ hfit]
          have hjl : j < (k + m) * sz := by rw [← hll]; exact (List.getElem?_eq_some_iff.1 hj).1
          by_cases hjk : j < k * sz
          · rw [if_neg (by omega), if_pos hjk]
            rw [List.getElem?_append_left (by rw [hlc]; exact hjk)] at hj
            rw [← cell_of_row w hb]
            exact u1 j x hj
          · have h1 := hs.len
            rw [if_pos (by omega), if_neg hjk]
            have : off + j - (off + k * sz) = j - k * sz := by omega
            rw [this]
            have hlt : j - k * sz < news.length := by omega
            simp [List.getD_eq_getElem?_getD, hlt]
        · by_cases hjk : j < k * sz
          · rw [if_pos hjk]
            rw [List.getElem?_append_left (by rw [hlc]; exact hjk)] at hj
            exact hpres.vr h.good (u2 j x hj)
          · rw [if_neg hjk]
            rw [List.getElem?_append_right (by rw [hlc]; omega), hlc] at hj
            have h1 := hs.len
            have h2 := hs.lenD
            have hlt : j - k * sz < news.length := by have := (List.getElem?_eq_some_iff.1 hj).1; omega
            have hn : news[j - k * sz]? = some (news.getD (j - k * sz) undef) := by simp [List.getD_eq_getElem?_getD, hlt]
            exact hpres.vr h.good (hs.vals _ x _ hj hn)
      · intro base m' cap' hv hc
        injection hv with e1 e2 e3
        subst e3
        exact ⟨b, off, _, t, fz, e1.symm, by simp only [G', Gh.upd_O, if_true]; exact ho i rfl, by simp [G'], setRow_heap w b c _ t fz hb, by rw [laid_size _ _ _ hfit, hsz], by rw [laid_size _ _ _ hfit]; exact ⟨hfz.1, hfz.2, hof, hz0.imp id fun ⟨z1, z2, x, z3⟩ => ⟨by omega, x, by
          have zp : 0 < k * sz := Nat.mul_pos z1 z2
          rw [laid_get _ _ _ hfit, if_neg (by omega)]; exact z3⟩, fun i y hi hy => by
          rw [laid_get _ _ _ hfit] at hy
          split at hy
          · exact hs.one _ (List.mem_of_getElem? hy)
          · exact hsp i y (by rw [hmul] at hi; omega) hy⟩⟩)
  exact ⟨G', by cases d <;> exact this, hpres⟩
def ownT : Option Nat → Owner
 | some i => .slot i 0
 | none => .res 0
theorem zeroLen_eq {e : TypeId} {sz : Nat} (h : zeroLen P e sz = true) : ∃ i z, P.info? e = some i ∧ i.zero = some z ∧ z.cells.size = sz ∧ ∀ y ∈ z.cells.toList, y.oneCell' = true := by
 unfold zeroLen at h
 split at h <;> try (cases h; done)
 split at h <;> try (cases h; done)
 rename_i i hi _ z hz
 rw [Bool.and_eq_true] at h
 exact ⟨i, z, hi, hz, by simpa using h.1, List.all_eq_true.1 h.2⟩
theorem zeroCells_one {zs : Array Value} (h : ∀ y ∈ zs.toList, y.oneCell' = true) (q : Nat) : ∀ y ∈ (Builtin.zeroCells zs q).toList, y.oneCell' = true := by
 intro y hy
 rw [show Builtin.zeroCells zs q = ((List.replicate q zs.toList).flatten).toArray from zero_row zs q] at hy
 simp only [List.mem_flatten, List.mem_replicate] at hy
 obtain ⟨l, ⟨_, rfl⟩, hm⟩ := hy
 exact h y hm
theorem eff_append (h : Inv G n D σ a w) {op : Op} {ty : TypeId} {sz by' : Nat} {x y : IX} {d : Option Nat} {K : St → Prop} (hd : dstOK n d = true) (hc : chkOp P op ty (.append sz by' x y) = true) (hw : iwp P (.append sz by' x y) d σ K) : Eff P G n D w a op ty d K := by
  cases op <;> first | (simp [chkOp] at hc; done) | skip
  rename_i c
  simp only [chkOp] at hc
  split at hc <;> try (cases hc; done)
  rename_i u v t t' hb
  have hce := asB_eq hb
  subst hce
  simp only [Bool.and_eq_true] at hc
  obtain ⟨⟨hu, hv⟩, hc⟩ := hc
  split at hc <;> try (cases hc; done)
  rename_i e ht
  have ht := elemOfSl_eq ht
  simp only [Bool.and_eq_true] at hc
  obtain ⟨⟨⟨⟨⟨hs, hby⟩, hpos⟩, hbpos⟩, hzl⟩, ht'⟩ := hc
  obtain ⟨i, z, hi, hz, hzs, hz1⟩ := zeroLen_eq hzl
  obtain ⟨i', hi', hisz⟩ := sizeIs_eq hs
  rw [hi] at hi'; injection hi' with hi'; subst hi'
  have hpos := of_decide_eq_true hpos
  have hbpos := of_decide_eq_true hbpos
  have hby : i.bytes = by' := by
    unfold bytesIs at hby
    rw [hi] at hby
    simpa using hby
  have ht2 : (∃ e', P.underlying t' = some (.slice e')) ∨ P.underlying t' = some .string := by
    rcases Bool.or_eq_true .. ▸ ht' with h | h
    · cases he : elemOfSl P t' with
      | none => rw [he] at h; cases h
      | some e' => exact .inl ⟨e', elemOfSl_eq he⟩
    · exact .inr (strT_eq h)
  have hw' : appendW sz by' σ x d K (σ.x x) (σ.x y) := hw
  -- the two kinds of what is appended
  have key : ∃ k m cs ds news, σ.x x = .sl true sz k cs ∧ Src P w G.R sz m ds (a.eval v) news ∧ (k + m) * by' ≤ room ∧ K ((σ.drain x).put d (.sl true sz (k + m) (cs ++ ds))) := by
    have hbx := XR.of_inv h hu
    have hby := XR.of_inv h hv
    generalize hx : σ.x x = xv at hw' hbx
    generalize hy : σ.x y = yv at hw' hby
    unfold appendW at hw'
    split at hw' <;> try (exact hw'.elim)
    · rename_i s k cs o s' m ds
      obtain ⟨rfl, h2, h3, h4⟩ := hw'
      obtain ⟨news, hsrc⟩ := Src.of_sl (P := P) hby h2
      exact ⟨k, m, cs, views ds, news, rfl, hsrc, h3, h4⟩
    · rename_i s k cs ds
      obtain ⟨rfl, h2, h3, h4⟩ := hw'
      subst h2
      have e1 := VR.inv_str hby
      exact ⟨k, ds.length, cs, _, _, rfl, by rw [e1]; exact Src.of_str, h3, h4⟩
  obtain ⟨k, m, cs, ds, news, hx, hsrc, hroom, hk⟩ := key
  have hiv : isV (σ.x x) = true := by rw [hx]; rfl
  obtain ⟨G1, h1, hp1, hv1, hown1, hR1, hsh, hloc, hcell⟩ := h.drain hu hiv (ownT d) (by cases d <;> simp [ownT]) (by cases d <;> simp [ownT])
  rw [hx] at hv1 hown1
  have hsrc1 : Src P w G1.R sz m ds (a.eval v) news := by rw [hR1]; exact hsrc
  -- a new row
  have grow : ∀ (base : Option Addr) (cap : Nat) (olds : List Value), a.eval u = .slice base k cap → cap < k + m → olds.length = k * sz → cs.length = k * sz → Fl cs →
      (Builtin.firstCells sz k (.slice base k cap)).run P w.drew = .ok olds.toArray w.drew → (∀ (j : Nat) (c : AV) (u : Value), cs[j]? = some c → olds[j]? = some u → VR w G1.R c u) →
      Eff P G n D w a (.call { callee := .builtin .append, args := #[u, v], argTypes := #[t, t'] }) ty d K := by
    intro base cap olds e1 hgrow hol hcl hcf hold hvals
    have hrun := run_app_grow (ty := ty) ht ht2 hi hz hisz hsrc1 hold hgrow (by rw [hby]; exact hroom) (by rw [hby]; exact hbpos)
    have hge : k + m ≤ grownCap w (k + m) cap e := grownCap_ge w (k + m) cap e
    obtain ⟨G2, h3, h4⟩ := (h1.drew).newSl (t := e) (c := olds.toArray ++ news.toArray ++ Builtin.zeroCells z.cells (grownCap w (k + m) cap e - (k + m))) (m := k + m) (cs := cs ++ ds) (cap := grownCap w (k + m) cap e) (sz := sz) (ob := match d with | some i => .slot i 0 | none => .none) hd
      (fun i hi => by subst hi; rfl) (fun hn => by subst hn; rfl) (by rw [List.length_append, hcl, hsrc.lenD, Nat.add_mul]) hge (by
        simp only [Array.size_append, List.size_toArray, size_zeroCells, hol, hsrc.len, hzs, ← Nat.add_mul]
        congr 1; omega) (fun c hc => by
        rcases List.mem_append.1 hc with hc | hc
        · exact hcf c hc
        · exact hsrc.fl c hc)
      (fun j x hj => by
        have hl1 := hsrc.len
        have hl2 := hsrc.lenD
        by_cases hjk : j < k * sz
        · rw [List.getElem?_append_left (by rw [hcl]; exact hjk)] at hj
          have hlt : j < olds.length := by rw [hol]; exact hjk
          refine ⟨olds[j], ?_, ?_⟩
          · rw [Array.append_assoc, Array.getElem?_append_left (by simpa using hlt)]
            simp [hlt]
          · exact (Pres.drew G1 w).vr h1.good (hvals j x _ hj (List.getElem?_eq_getElem hlt))
        · rw [List.getElem?_append_right (by rw [hcl]; omega), hcl] at hj
          have hlt : j - k * sz < news.length := by have := (List.getElem?_eq_some_iff.1 hj).1; omega
          refine ⟨news[j - k * sz], ?_, ?_⟩
          · rw [Array.append_assoc, Array.getElem?_append_right (by simp [hol]; omega), Array.getElem?_append_left (by simp [hol]; omega)]
            simp only [List.size_toArray, hol, List.getElem?_toArray]
            exact List.getElem?_eq_getElem hlt
          · exact (Pres.drew G1 w).vr h1.good (hsrc1.vals _ x _ hj (List.getElem?_eq_getElem hlt))) (0, 0) ⟨fun k _ hk => by simp at hk, Nat.le_refl _⟩ (own := true) (fun _ => .inl rfl) (fun i y hi hy => by
        rw [Array.append_assoc, ← Array.append_assoc, Array.getElem?_append_right (by simp only [Array.size_append, List.size_toArray, hol, hsrc.len, ← Nat.add_mul]; exact hi)] at hy
        exact zeroCells_one hz1 _ _ (List.mem_of_getElem? (by rw [Array.getElem?_toList]; exact hy)))
    intro pos after gd next Q hn
    refine wp_value ?_ (hn G2 _ _ _ h3 (hp1.trans ((Pres.drew G1 w).trans h4)) hk)
    simp [execOp, resolve, invoke, builtin, e1, hrun]
  rcases VR.inv_sl hv1 with ⟨e0, rfl, rfl⟩ | ⟨b, off, cap, e1, hcl, hRb, hcap, hat⟩
  · -- nil
    have e1 := e0.own
    by_cases hm : m = 0
    · subst hm
      have hds : ds = [] := List.eq_nil_of_length_eq_zero (by simpa using hsrc.lenD)
      subst hds
      have hrun := run_app_nil0 (ty := ty) ht ht2 hi hisz hsrc1
      have hput : Inv G1 n D ((σ.drain x).put d (.sl true sz 0 [])) (a.put d (.slice none 0 0)) w := by
        have := h1.put (s' := (σ.drain x).s) (lp' := (σ.drain x).lp) d (fun i hi => by subst hi; simpa [dstOK] using hd) (.sl true sz 0 []) (.slice none 0 0) h1.good (Pres.refl G1 w) h1.store (fun _ hx => hx) (fun i t _ ht => ht.elim) (fun i t _ ⟨cs, hcs⟩ => by cases hcs)
          (fun _ _ _ _ => ⟨rfl, rfl, rfl⟩) (fun _ _ _ _ _ _ hcc => ⟨hcc, rfl, rfl⟩) (fun i hdi => ⟨.slnil _ _, fun base m' cap' hv hc => by injection hv with _ e2 e3; omega⟩)
        cases d <;> exact this
      intro pos after gd next Q hn
      refine wp_value (w' := w) ?_ (hn G1 _ _ _ hput hp1 hk)
      simp [execOp, resolve, invoke, builtin, e1, hrun]
    · exact grow none 0 [] e1 (by omega) (by simp) (by simp) Fl.nil (by simp [Builtin.firstCells]) (fun j c u hc => by simp at hc)
  · by_cases hfit : k + m ≤ cap
    · by_cases hm : m = 0
      · subst hm
        have hds : ds = [] := List.eq_nil_of_length_eq_zero (by simpa using hsrc.lenD)
        have hnews : news = [] := List.eq_nil_of_length_eq_zero (by simpa using hsrc.len)
        subst hds; subst hnews
        have hrun := run_app_stay (ty := ty) (w := w) ht ht2 hi hisz hsrc1 (b := b) (off := off) (k := k) (cap := cap) hfit (w' := w) rfl
        simp only [List.append_nil, Nat.add_zero] at hk hrun
        have hput : Inv G1 n D ((σ.drain x).put d (.sl true sz k cs)) (a.put d (a.eval u)) w := by
          have := h1.put (s' := (σ.drain x).s) (lp' := (σ.drain x).lp) d (fun i hi => by subst hi; simpa [dstOK] using hd) (.sl true sz k cs) (a.eval u) h1.good (Pres.refl G1 w) h1.store (fun _ hx => hx) (fun i t _ ht => ht.elim) (fun i t _ ⟨cs, hcs⟩ => by cases hcs)
            (fun _ _ _ _ => ⟨rfl, rfl, rfl⟩) (fun _ _ _ _ _ _ hcc => ⟨hcc, rfl, rfl⟩) (fun i hdi => by subst hdi; exact ⟨hv1, hown1⟩)
          cases d <;> exact this
        intro pos after gd next Q hn
        refine wp_value (w' := w) ?_ (hn G1 _ _ _ hput hp1 hk)
        simp [execOp, resolve, invoke, builtin, e1, hrun]
      · obtain ⟨b', off', c, et, fz, q1, q2, q3, q4, q5, q6⟩ := hown1 _ _ _ e1 (by omega)
        injection q1 with q1; injection q1 with q1 q1'
        subst q1; subst q1'
        have hon : G1.O b ≠ .none ∧ G1.O b ≠ .frame ∧ G1.O b ≠ .sh ∧ (∀ i, G1.O b ≠ .loc i) ∧ (∀ i j, G1.O b ≠ .cell i j) ∧ (∀ i j, G1.O b = .slot i j → d = some i ∧ j = 0) := by
          rw [q2]
          cases d with
          | none => simp [ownT]
          | some i => simp +contextual [ownT]
        obtain ⟨G2, h3, h4⟩ := h1.grown (k := k) (m := m) hd q4 ⟨q6.1, q6.2.1⟩ q6.2.2.1 (q6.2.2.2.1.imp id fun ⟨z1, z2⟩ => ⟨z1, hpos, z2⟩) q6.2.2.2.2 (fun i hi => by subst hi; exact q2) hon q3 q5 hfit hcl hat hsrc1 rfl
        have hfit2 : off + k * sz + news.length ≤ c.size := by
          rw [hsrc.len, q5, Nat.add_assoc, ← Nat.add_mul]
          exact Nat.add_le_add_left (Nat.mul_le_mul_right _ hfit) _
        have hst := run_storeCells_free (P := P) b (off + k * sz) et fz news 0 c w q4 q6.1 (by simpa using hfit2) hsrc.one
        have hrun := run_app_stay (ty := ty) (w := w) ht ht2 hi hisz hsrc1 (b := b) (off := off) (k := k) (cap := cap) hfit (w' := w.setRow b (laid c (off + k * sz) news)) (by simpa [laid] using hst)
        intro pos after gd next Q hn
        refine wp_value ?_ (hn G2 _ _ _ h3 (hp1.trans h4) hk)
        simp [execOp, resolve, invoke, builtin, e1, hrun]
    · have hfl : Fl cs := by obtain ⟨_, _, _, hf⟩ := hat; exact hf
      obtain ⟨us, u1, u2, u3⟩ := hat.vals
      exact grow _ cap us e1 (by omega) (by rw [u1, hcl]) hcl hfl (run_firstCells_some w.drew sz k ⟨b, off, none⟩ k cap us (by rw [u1, hcl]) u2) u3
end
end Go.AB
end

section
namespace Go.AB
open Go
section
variable {P : Program} {G G' : Gh} {n : Nat} {D : List Deferred} {σ : St} {a : Act} {w w' : World}
def Gh.outer (G : Gh) : Gh := ⟨G.R, fun b => match G.O b with
 | .none => .none
 | .sh => .sh
 | .cell b' j => if G.O b' = .sh then .cell b' j else .frame
 | _ => .frame⟩
theorem outer_none {b : Nat} : G.outer.O b = .none ↔ G.O b = .none := by
 simp only [Gh.outer]
 split <;> simp_all
 split <;> simp
theorem outer_sh {b : Nat} : G.outer.O b = .sh ↔ G.O b = .sh := by
 simp only [Gh.outer]
 split <;> simp_all
 split <;> simp
theorem outer_cell {b b' j : Nat} : G.outer.O b = .cell b' j ↔ (G.O b = .cell b' j ∧ G.O b' = .sh) := by
  simp only [Gh.outer]
  split <;> simp_all
  rename_i b1 j1 _
  by_cases hb : G.O b1 = .sh
  · rw [if_pos hb]
    constructor
    · intro e; injection e with e1 e2; subst e1; subst e2; exact ⟨⟨rfl, rfl⟩, hb⟩
    · rintro ⟨⟨rfl, rfl⟩, _⟩; rfl
  · rw [if_neg hb]
    constructor
    · intro e; cases e
    · rintro ⟨⟨rfl, rfl⟩, h⟩; exact absurd h hb
theorem outer_frame {b : Nat} (h1 : G.O b ≠ .none) (h2 : G.O b ≠ .sh) (h3 : ∀ b' j, G.O b = .cell b' j → G.O b' ≠ .sh) : G.outer.O b = .frame := by
 simp only [Gh.outer]
 split <;> first | (rename_i e; exact absurd e h1) | (rename_i e; exact absurd e h2) | rfl | skip
 rename_i b' j e
 rw [if_neg (h3 b' j e)]
theorem outer_outer (G : Gh) : Outer G.outer := by
  intro b
  by_cases h1 : G.O b = .none
  · exact .inl (outer_none.2 h1)
  · by_cases h2 : G.O b = .sh
    · exact .inr (.inr (.inl (outer_sh.2 h2)))
    · by_cases h3 : ∃ b' j, G.O b = .cell b' j ∧ G.O b' = .sh
      · obtain ⟨b', j, e1, e2⟩ := h3
        exact .inr (.inr (.inr ⟨b', j, outer_cell.2 ⟨e1, e2⟩, outer_sh.2 e2⟩))
      · exact .inr (.inl (outer_frame h1 h2 fun b' j e hb' => h3 ⟨b', j, e, hb'⟩))
def isOne : List AV → Bool
 | [_] => true
 | _ => false
def resT (single : Bool) : Option Nat → Nat → Owner
 | some i, j => .slot i (if single then j else j + 1)
 | none, _ => .none
def resO (single : Bool) (d : Option Nat) : Owner → Owner
 | .none => .none
 | .sh => .sh
 | .cell b' j => .cell b' j
 | .res j => resT single d j
 | _ => .none
theorem Inv.args (h : Inv G n D σ a w) {ys : List Operand} {xs : List IX} {as : List AV} (hc : chkXs ys xs = true) (hv : argsV (xg true σ) xs = some as) : ArgsR w G.R as (ys.map a.eval).toArray := by
 have hf : ∀ (o : Operand) (x : IX), chkX o x = true → isV (xg true σ x) = true → VR w G.R (xg true σ x) (a.eval o) := fun o x hx hi => by
  have := BR.of_inv h hx
  generalize xg true σ x = av at hi this
  cases av <;> first | exact this | (simp [isV] at hi)
 obtain ⟨h1, _, h3⟩ := argsV_sound h hf ys xs as hc hv
 exact ⟨by simp [h1], fun j c u hc hu => h3 j c u hc (by simpa using hu)⟩
theorem Inv.outerGood (h : Inv G n D σ a w) : GoodW G.outer w ∧ StoreR G.outer w σ.s :=
 ⟨⟨fun b hb => outer_none.2 (h.good.newO b hb), h.good.newR⟩, h.store.mono' (fun _ _ hv => hv) (fun _ hb => ⟨outer_sh.2 hb, rfl, rfl⟩) (fun _ _ _ hb hc => ⟨outer_cell.2 ⟨hc, hb⟩, rfl, rfl⟩)⟩
theorem rsOK_one {r : AV} (h : rsOK [r] = true) : (∃ sz m cs, r = .us sz m cs) ∨ (isV r = true ∧ ∀ sz m cs, r ≠ .us sz m cs) := by
 cases r <;> first | exact .inl ⟨_, _, _, rfl⟩ | exact .inr ⟨by simpa [rsOK, isUs] using h, fun _ _ _ e => by cases e⟩
theorem rsOK_holds {r : AV} (h : rsOK [r] = true) (t : Nat) : ¬ holdsLp r t := by
  rcases rsOK_one h with ⟨_, _, _, rfl⟩ | ⟨h, _⟩
  · exact fun h => h
  · exact not_holdsLp h t
theorem rsOK_loc {r : AV} (h : rsOK [r] = true) (cs : List AV) : r ≠ .loc cs := by
  rcases rsOK_one h with ⟨_, _, _, rfl⟩ | ⟨h, _⟩
  · exact fun h => by cases h
  · exact not_loc h cs
theorem Inv.behind (h : Inv G n D σ a w) {d : Option Nat} (hd : dstOK n d = true) {rs : List AV} {s' : Store} {v : Value} (hok : rsOK rs = true) (hg : GoodW G' w') (hs : StoreR G' w' s') (hr : ResR G' w' rs v) (hp : Pres G.outer w G' w') :
    ∃ G2, Inv G2 n D ({ σ with s := s' }.put d (retV rs)) (a.put d v) w' ∧ Pres G w G2 w' := by
  obtain ⟨O2, hO2⟩ : ∃ O2 : Nat → Owner, ∀ b, O2 b = if G.outer.O b = .frame then G.O b else resO (isOne rs) d (G'.O b) := ⟨_, fun _ => rfl⟩
  let G2 : Gh := ⟨G'.R, O2⟩
  have hfr : ∀ b, G.outer.O b = .frame → b < w.heap.size ∧ w'.heap[b]? = w.heap[b]? ∧ G'.O b = .frame ∧ G'.R b = G.R b ∧ G2.O b = G.O b := by
    intro b hb
    have hlt : b < w.heap.size := h.outerGood.1.lt (by rw [hb]; simp)
    obtain ⟨q1, q2⟩ := hp.frameO b hlt hb
    exact ⟨hlt, hp.frame b hlt (.inl hb), q1, q2, (hO2 b).trans (if_pos hb)⟩
  have hnf : ∀ b, G.outer.O b ≠ .frame → G2.O b = resO (isOne rs) d (G'.O b) := by
    intro b hb
    exact (hO2 b).trans (if_neg hb)
  have hgood : GoodW G2 w' := by
    refine ⟨fun b hb => ?_, fun b hb => hg.newR b hb⟩
    have hbs : w.heap.size ≤ b := Nat.le_trans hp.size hb
    rw [hnf b (by rw [outer_none.2 (h.good.newO b hbs)]; simp), hg.newO b hb]; rfl
  have hpres : Pres G w G2 w' := by
    refine ⟨hp.os, hp.tape, hp.output, hp.drawn, hp.size, hp.mono, hp.stable, fun b hb ho => ?_, fun b hb ho => ?_, fun b hb ho => ?_⟩
    · rcases ho with ho | ho
      · exact hp.frame b hb (.inl (outer_frame (by rw [ho]; simp) (by rw [ho]; simp) (by rw [ho]; simp)))
      · exact hp.frame b hb (.inr (outer_none.2 ho))
    · obtain ⟨_, _, _, q4, q5⟩ := hfr b (outer_frame (by rw [ho]; simp) (by rw [ho]; simp) (by rw [ho]; simp))
      exact ⟨q5.trans ho, q4⟩
    · have ho' := outer_none.2 ho
      obtain ⟨q1, q2⟩ := hp.noneO b hb ho'
      exact ⟨by rw [hnf b (by rw [ho']; simp), q1]; rfl, q2⟩
  have hkeep : ∀ b, (G'.O b = .sh ∨ ∃ b' j, G'.O b = .cell b' j) → G2.O b = G'.O b := by
    intro b hb
    by_cases hf : G.outer.O b = .frame
    · have := (hfr b hf).2.2.1
      rcases hb with hb | ⟨_, _, hb⟩ <;> rw [this] at hb <;> cases hb
    · rw [hnf b hf]
      rcases hb with hb | ⟨_, _, hb⟩ <;> rw [hb] <;> rfl
  have hst : StoreR G2 w' s' := hs.mono' (fun _ _ hv => hv) (fun b hb => ⟨(hkeep b (.inl hb)).trans hb, rfl, rfl⟩) (fun b c j _ hc => ⟨(hkeep c (.inr ⟨b, j, hc⟩)).trans hc, rfl, rfl⟩)
  have hres : ∀ (i j : Nat) (x : AV) (y : Value), d = some i → OwnR G' w' (.res j) x y → OwnR G2 w' (.slot i (if isOne rs then j else j + 1)) x y := by
    intro i j x y hdi ho
    unfold OwnR at ho ⊢
    split
    · rename_i sz m cs
      intro base m' cap hv hc
      obtain ⟨b, off, c, e, fz, q1, q2, q3⟩ := ho base m' cap hv hc
      refine ⟨b, off, c, e, fz, q1, ?_, q3⟩
      have hf : G.outer.O b ≠ .frame := fun hf => by have := (hfr b hf).2.2.1; rw [q2] at this; cases this
      rw [hnf b hf, q2, hdi]; rfl
    · rename_i e m cs
      intro base m' cap hv hc
      obtain ⟨b, off, c, fz, q1, q2, q3⟩ := ho base m' cap hv hc
      refine ⟨b, off, c, fz, q1, ?_, q3⟩
      have hf : G.outer.O b ≠ .frame := fun hf => by have := (hfr b hf).2.2.1; rw [q2] at this; cases this
      rw [hnf b hf, q2, hdi]; rfl
    · trivial
  have hput := h.put (s' := s') (lp' := σ.lp) d (fun i hi => by subst hi; simpa [dstOK] using hd) (retV rs) v hgood hpres hst (fun _ hx => hx)
    (fun i t _ ht => by
      match rs, hok, ht with
      | [r], hok, ht => exact (rsOK_holds hok t ht).elim
      | [], _, ht => exact ht.elim
      | _ :: _ :: _, _, ht => exact ht.elim)
    (fun i t _ ⟨cs, hcs⟩ => by
      match rs, hok, hcs with
      | [r], hok, hcs => exact (rsOK_loc hok cs hcs).elim
      | [], _, hcs => cases hcs
      | _ :: _ :: _, _, hcs => cases hcs)
    (fun i b _ hb => by
      have hf : G.outer.O b = .frame := by
        rcases hb with ⟨j, hb⟩ | hb <;> exact outer_frame (by rw [hb]; simp) (by rw [hb]; simp) (by rw [hb]; simp)
      obtain ⟨_, q2, _, q4, q5⟩ := hfr b hf
      exact ⟨q5, q4, q2⟩)
    (fun i b c j _ hb hc => by
      have hf : G.outer.O c = .frame := outer_frame (by rw [hc]; simp) (by rw [hc]; simp) (fun b' j' e => by rw [hc] at e; injection e with e1 e2; subst e1; rw [hb]; simp)
      obtain ⟨_, q2, _, q4, q5⟩ := hfr c hf
      exact ⟨q5.trans hc, q4, q2⟩)
    (fun i hi => by
      match rs, hok, hr, hres with
      | [r], hok, hr, hres =>
        show ValS G2 w' _ _ i r v
        rcases rsOK_one hok with ⟨sz, m, cs, rfl⟩ | ⟨hV, hnu⟩
        · rcases hr with hr | ⟨b, cap, c, t, sp, h1, h2, h3, h4, h5, h6⟩
          · exact .inl hr
          · refine .inr ⟨b, cap, c, t, sp, h1, h2, h3, ?_, h5, h6⟩
            have hf : G.outer.O b ≠ .frame := fun hf => by have := (hfr b hf).2.2.1; rw [h4] at this; cases this
            show O2 b = _
            rw [show O2 b = G2.O b from rfl, hnf b hf, h4, hi]; rfl
        · rw [ValS.of_isV hV]
          have hr' : VR w' G'.R r v ∧ OwnR G' w' (.res 0) r v := by
            cases r <;> first | exact hr | exact absurd rfl (hnu _ _ _)
          exact ⟨hr'.1, hres i 0 r v hi hr'.2⟩
      | [], _, hr, hres =>
        obtain ⟨ys, q1, q2⟩ := hr
        exact ⟨ys, q1, q2.1, fun j x y hx => by simp at hx⟩
      | r1 :: r2 :: rr, _, hr, hres =>
        obtain ⟨ys, q1, q2⟩ := hr
        exact ⟨ys, q1, q2.1, fun j x y hx hy => ⟨(q2.2 j x y hx hy).1, hres i j x y hi (q2.2 j x y hx hy).2⟩⟩)
  exact ⟨G2, by cases d <;> exact hput, hpres⟩
theorem eff_enter (h : Inv G n D σ a w) {op : Op} {ty : TypeId} {d : Option Nat} {K : St → Prop} (hd : dstOK n d = true) {f : FuncId} {as : List AV} {vs : Array Value}
  (hr : ∀ (pos : String) (after : Array Edge) (g : Option (Nat × Bool)), (execOp a.eval ⟨d, op, ty, pos, after, g⟩).run P w = .ok (.enter f vs) w) (ha : ArgsR w G.R as vs) (hw : FN P f as σ.s (callK σ d K)) : Eff P G n D w a op ty d K := by
 intro pos after g next Q hn
 unfold Oper.wp
 rw [hr pos after g]
 obtain ⟨g1, g2⟩ := h.outerGood
 refine (hw G.outer w vs g1 (outer_outer G) g2 ha).mono fun e w' ⟨v, rs, s', G', he, ⟨hok, hk⟩, q1, q2, q3, q4⟩ => ?_
 subst he
 obtain ⟨G2, h1, h2⟩ := h.behind hd hok q1 q2 q3 q4
 exact hn G2 _ _ _ h1 h2 hk
theorem run_callFunc {f : FuncId} {fn : Func} (hf : P.funcs[f]? = some fn) (hname : (fn.name != "runtime.NumGoroutine") = true) (hb : fn.body.isSome = true) (args : Array Value) : (callFunc f args).run P w = .ok (.enter f args) w := by
 have h1 : ¬ (fn.name = "runtime.NumGoroutine") := by simpa using hname
 have h2 : fn.body.isNone = false := by cases hbb : fn.body <;> simp_all
 have h3 : fn.body ≠ none := by intro e; rw [e] at hb; cases hb
 simp [callFunc, hf, h1, h3]
theorem eff_call (h : Inv G n D σ a w) {op : Op} {ty : TypeId} {f : Nat} {args : List IX} {d : Option Nat} {K : St → Prop} (hd : dstOK n d = true) (hc : chkOp P op ty (.call f args) = true) (hw : iwp P (.call f args) d σ K) : Eff P G n D w a op ty d K := by
  cases op <;> first | (simp [chkOp] at hc; done) | skip
  rename_i c
  obtain ⟨callee, ys, ats⟩ := c
  simp only [chkOp] at hc
  split at hc <;> try (cases hc; done)
  rename_i g
  simp only [Bool.and_eq_true, beq_iff_eq] at hc
  obtain ⟨⟨rfl, hxs⟩, hfn⟩ := hc
  split at hfn <;> try (cases hfn; done)
  rename_i fn hf
  rw [Bool.and_eq_true] at hfn
  have hw' : callW P f σ d K (argsV (xg true σ) args) := hw
  cases has : argsV (xg true σ) args with
  | none => rw [has] at hw'; exact hw'.elim
  | some as =>
    rw [has] at hw'
    refine eff_enter h hd (as := as) (vs := ys.map a.eval) (fun _ _ _ => ?_) ?_ hw'
    · simp [execOp, resolve, Act.eval, Deferred.ofValue, invoke, run_callFunc hf hfn.1 hfn.2]
    · have := h.args hxs has
      rwa [show (ys.toList.map a.eval).toArray = ys.map a.eval from by apply Array.ext'; simp] at this
theorem bytesIs_eq {t : TypeId} {m : Nat} (h : bytesIs P t m = true) : ∃ i, P.info? t = some i ∧ i.bytes = m := by
  unfold bytesIs at h
  split at h
  · exact ⟨_, by assumption, by simpa using h⟩
  · cases h
theorem wrap64_id {c : Int} (h0 : 0 ≤ c) (h1 : c ≤ 9223372036854775807) : IntKind.i64.wrap c = c := by rw [IntKind.wrap_i64]; omega
theorem room_i64 {c : Int} {by' : Nat} (h0 : 0 ≤ c) (hb : 0 < by') (hr : c * by' ≤ room) : c ≤ room ∧ IntKind.i64.wrap c = c ∧ ¬ (281474976710656 < by' * c) := by
  have h1 : c ≤ c * by' := by
    have := Int.mul_le_mul_of_nonneg_left (show (1 : Int) ≤ by' by omega) h0
    omega
  have h2 : c ≤ room := Int.le_trans h1 hr
  refine ⟨h2, ?_, ?_⟩
  · unfold room at h2
    exact wrap64_id (by omega) (by omega)
  · rw [Int.mul_comm] at hr
    unfold room at hr
    omega
theorem flatten_repG {α : Type} (u : α) (l : List α) : ∀ (m : Nat), ((List.replicate m l).flatten) = ((List.range (m * l.length)).map fun i => l.getD (i % l.length) u) := by
  intro m
  apply List.ext_getElem?
  intro j
  rcases Nat.eq_zero_or_pos l.length with h0 | hp
  · have : l = [] := List.eq_nil_of_length_eq_zero h0
    subst this
    simp
  · induction m generalizing j with
    | zero => simp
    | succ m ih =>
      rw [List.replicate_succ, List.flatten_cons]
      by_cases hj : j < l.length
      · rw [List.getElem?_append_left hj, List.getElem?_map, List.getElem?_range (by rw [Nat.add_mul, Nat.one_mul]; omega)]
        simp [Nat.mod_eq_of_lt hj, List.getD_eq_getElem?_getD, List.getElem?_eq_getElem hj]
      · rw [List.getElem?_append_right (by omega), ih, List.getElem?_map, List.getElem?_map]
        by_cases hlt : j < (m + 1) * l.length
        · have h1 : j - l.length < m * l.length := by rw [Nat.add_mul, Nat.one_mul] at hlt; omega
          rw [List.getElem?_range hlt, List.getElem?_range h1]
          simp only [Option.map_some]
          congr 2
          rw [Nat.mod_eq_sub_mod (by omega : l.length ≤ j)]
        · have h1 : ¬ (j - l.length < m * l.length) := by rw [Nat.add_mul, Nat.one_mul] at hlt; omega
          rw [List.getElem?_eq_none (by simp; omega), List.getElem?_eq_none (by simp; omega)]
theorem run_makeSlice {t e : TypeId} {i : TypeInfo} {z : Value} {l c : Int} {k k' : IntKind} (ht : P.underlying t = some (.slice e)) (hi : P.info? e = some i) (hz : i.zero = some z) (hsz : z.cells.size = i.size) (hb : 0 < i.bytes) (h0 : 0 ≤ l) (hlc : l ≤ c) (hr : c * i.bytes ≤ room) (w : World) :
    (Instr.makeSlice t (.int k l) (.int k' c)).run P w = .ok (.slice (some ⟨w.heap.size, 0, none⟩) l.toNat c.toNat) (w.alloc (.cells ((List.replicate c.toNat z.cells.toList).flatten).toArray e)) := by
  obtain ⟨h1, h2, h3⟩ := room_i64 (Int.le_trans h0 hlc) hb hr
  have h4 : IntKind.i64.wrap l = l := wrap64_id (by omega) (by unfold room at h1; omega)
  have h5 : ¬ (c < 0) := by omega
  have h6 : ¬ (l < 0) := by omega
  have h7 : ¬ (c < l) := by omega
  have hrow : (Array.map (fun x => (if c.toNat * i.size = 0 then (#[] : Array Value) else z.cells)[x % (if c.toNat * i.size = 0 then (#[] : Array Value) else z.cells).size]!) (Array.range (c.toNat * i.size))) = ((List.replicate c.toNat z.cells.toList).flatten).toArray := by
    rw [← zero_row, hsz]
    by_cases hn : c.toNat * i.size = 0
    · simp [hn]
    · simp [hn, hsz]
  by_cases hn : c.toNat * i.size = 0
  · simp only [hn, if_true] at hrow
    simp [Instr.makeSlice, asInt, asIntOf, run_underlying ht, typeInfo, sizeOf, hi, h2, h4, h3, h5, h6, h7, newRow, hn, ← hrow]
  · simp only [hn, if_false] at hrow
    simp [Instr.makeSlice, asInt, asIntOf, run_underlying ht, typeInfo, sizeOf, hi, h2, h4, h3, h5, h6, h7, newRow, hn, zeroValue, hz, hrow]
theorem eff_callv (h : Inv G n D σ a w) {op : Op} {ty : TypeId} {x : IX} {args : List IX} {d : Option Nat} {K : St → Prop} (hd : dstOK n d = true) (hc : chkOp P op ty (.callv x args) = true) (hw : iwp P (.callv x args) d σ K) : Eff P G n D w a op ty d K := by
  cases op <;> first | (simp [chkOp] at hc; done) | skip
  rename_i c
  obtain ⟨callee, ys, ats⟩ := c
  simp only [chkOp] at hc
  split at hc <;> try (cases hc; done)
  rename_i y
  simp only [Bool.and_eq_true] at hc
  obtain ⟨hx, hxs⟩ := hc
  have hb := BR.of_inv h hx
  have hw' : callvW P σ (argsV (xg true σ) args) d K (xg true σ x) := hw
  generalize xg true σ x = xv at hb hw'
  unfold callvW at hw'
  split at hw' <;> try (exact hw'.elim)
  rename_i f first caps
  cases has : argsV (xg true σ) args with
  | none => rw [has] at hw'; exact hw'.elim
  | some as =>
    rw [has] at hw'
    have hv : VR w G.R (.fn f first caps) (a.eval y) := hb
    generalize hev : a.eval y = yv at hv
    cases hv with
    | fn _ _ _ vf vc hl hr hl' hr' =>
    have hargs := h.args hxs has
    obtain ⟨hfs, hw'⟩ := hw'
    unfold fnOK at hfs
    split at hfs <;> try (cases hfs; done)
    rename_i fn hf
    rw [Bool.and_eq_true] at hfs
    refine eff_enter h hd (as := first ++ as ++ caps) (vs := vf ++ (ys.toList.map a.eval).toArray ++ vc) (fun _ _ _ => ?_) ?_ hw'
    · rw [show (ys.toList.map a.eval).toArray = ys.map a.eval from by apply Array.ext'; simp]
      simp [execOp, resolve, hev, Deferred.ofValue, invoke, run_callFunc hf hfs.1 hfs.2]
    · refine ⟨by have := hargs.1; simp at this; simp [hl, hl', this], fun j c u hc hu => ?_⟩
      have h1 := hargs.1
      rw [List.append_assoc, List.getElem?_append] at hc
      rw [Array.append_assoc, Array.getElem?_append] at hu
      by_cases hj : j < first.length
      · rw [if_pos hj] at hc
        rw [if_pos (by omega)] at hu
        exact hr j c u hc hu
      · rw [if_neg hj, List.getElem?_append] at hc
        rw [if_neg (by omega), Array.getElem?_append, hl, h1] at hu
        by_cases hj2 : j - first.length < as.length
        · rw [if_pos hj2] at hc hu
          exact hargs.2 _ c u hc hu
        · rw [if_neg hj2] at hc hu
          exact hr' _ c u hc hu
theorem eff_makeSl (h : Inv G n D σ a w) {op : Op} {ty : TypeId} {sz by' : Nat} {z : List AV} {l c : IX} {d : Option Nat} {K : St → Prop} (hd : dstOK n d = true) (hc : chkOp P op ty (.makeSl sz by' z l c) = true) (hw : iwp P (.makeSl sz by' z l c) d σ K) : Eff P G n D w a op ty d K := by
  cases op <;> first | (simp [chkOp] at hc; done) | skip
  rename_i t l' c'
  simp only [chkOp, Bool.and_eq_true] at hc
  obtain ⟨⟨hl, hcc⟩, hc⟩ := hc
  split at hc <;> try (cases hc; done)
  rename_i e he
  simp only [Bool.and_eq_true, decide_eq_true_eq] at hc
  obtain ⟨⟨⟨⟨hs, hby⟩, hz⟩, hsz⟩, hbp⟩ := hc
  have hb1 := BR.of_inv h hl
  have hb2 := BR.of_inv h hcc
  have hw' : makeSlW by' z σ d K (xg true σ l) (xg true σ c) := hw
  generalize xg true σ l = lv at hb1 hw'
  generalize xg true σ c = cv at hb2 hw'
  unfold makeSlW at hw'
  split at hw' <;> try (exact hw'.elim)
  rename_i k l0 k' c0
  obtain ⟨q1, q2, q3, q4⟩ := hw'
  obtain ⟨i, v, h1, h2, h3, h4, h5⟩ := zeroIs_eq hz
  obtain ⟨i', h6, h7⟩ := bytesIs_eq hby
  rw [h1] at h6; injection h6 with h6; subst h6
  have e1 := VR.inv_int hb1
  have e2 := VR.inv_int hb2
  have hrow0 := h4 w G.R
  have hcells : v.cells.toList.length = z.length := by simpa using hrow0.1
  have hfl : Fl (List.replicate c0.toNat z).flatten := by
    intro x hx
    simp only [List.mem_flatten, List.mem_replicate] at hx
    obtain ⟨l', ⟨_, rfl⟩, hx⟩ := hx
    exact hrow0.2.2 x hx
  have hcs : ∀ (G' : Gh) (w' : World) (o : Nat → Owner), Pres G w G' w' → CellsR G' w' o (List.replicate c0.toNat z).flatten ((List.replicate c0.toNat v.cells.toList).flatten).toArray := by
    intro G' w' o _
    have hall : ∀ (j : Nat) (x : AV) (y : Value), ((List.replicate c0.toNat z).flatten)[j]? = some x → ((List.replicate c0.toNat v.cells.toList).flatten)[j]? = some y → cR y x = true := by
      intro j x y hx hy
      have hjz : (List.replicate c0.toNat z).flatten = (List.range (c0.toNat * z.length)).map fun i => z.getD (i % z.length) .undef := flatten_repG .undef z c0.toNat
      have hjv : (List.replicate c0.toNat v.cells.toList).flatten = (List.range (c0.toNat * z.length)).map fun i => v.cells.toList.getD (i % z.length) undef := by rw [flatten_repG undef, hcells]
      rw [hjz, List.getElem?_map] at hx
      rw [hjv, List.getElem?_map] at hy
      cases hrg : (List.range (c0.toNat * z.length))[j]? with
      | none => rw [hrg] at hx; cases hx
      | some q =>
        rw [hrg] at hx hy
        simp only [Option.map_some, Option.some.injEq] at hx hy
        have hzp : 0 < z.length := by
          rcases Nat.eq_zero_or_pos z.length with h0 | h0
          · rw [h0] at hrg; simp at hrg
          · exact h0
        have hlt := Nat.mod_lt q hzp
        refine h5 (q % z.length) x y ?_ ?_
        · rw [← hx]; simp [List.getD_eq_getElem?_getD, hlt]
        · rw [← hy]
          have hlt2 : q % z.length < v.cells.size := by have := hrow0.1; omega
          simp [List.getD_eq_getElem?_getD, hlt2]
    refine ⟨by simp [hcells], fun j x y hx hy => ?_⟩
    have := hall j x y hx (by simpa using hy)
    exact ⟨cR_vr this w' G'.R, cR_own this G' w' _⟩
  obtain ⟨G', g1, g2⟩ := h.newS hd (t := e) (.inr ⟨l0.toNat, c0.toNat, rfl, rfl⟩) hcs hfl
  intro pos after g next Q hn
  refine wp_value (v := .slice (some ⟨w.heap.size, 0, none⟩) l0.toNat c0.toNat) (w' := w.alloc (.cells ((List.replicate c0.toNat v.cells.toList).flatten).toArray e)) ?_ (hn G' _ _ _ g1 g2 (q4 w.heap.size (h.store.get_none h.good)))
  have := run_makeSlice (k := k) (k' := k') (elemOfSl_eq he) h1 h2 (by rw [h3]; simpa using hcells) (by omega) q1 q2 (by rw [h7]; exact q3) w
  simp [execOp, e1, e2, this]
theorem eff_makeOw (h : Inv G n D σ a w) {op : Op} {ty : TypeId} {sz by' : Nat} {c : IX} {d : Option Nat} {K : St → Prop} (hd : dstOK n d = true) (hc : chkOp P op ty (.makeOw sz by' c) = true) (hw : iwp P (.makeOw sz by' c) d σ K) : Eff P G n D w a op ty d K := by
 cases op <;> first | (simp [chkOp] at hc; done) | skip
 rename_i t l' c'
 simp only [chkOp, Bool.and_eq_true] at hc
 obtain ⟨⟨hl, hcc⟩, hc⟩ := hc
 split at hl <;> try (cases hl; done)
 split at hc <;> try (cases hc; done)
 rename_i e he
 simp only [Bool.and_eq_true, decide_eq_true_eq] at hc
 obtain ⟨⟨⟨⟨hs, hby⟩, hz⟩, hsz⟩, hbp⟩ := hc
 have hb2 := BR.of_inv h hcc
 have hw' : makeOwW sz by' σ d K (xg true σ c) := hw
 generalize xg true σ c = cv at hb2 hw'
 unfold makeOwW at hw'
 split at hw' <;> try (exact hw'.elim)
 rename_i k' c0
 obtain ⟨q2, q3, q4⟩ := hw'
 obtain ⟨i, h1, h3⟩ := sizeIs_eq hs
 obtain ⟨i', h6, h7⟩ := bytesIs_eq hby
 rw [h1] at h6; injection h6 with h6; subst h6
 unfold zeroLen at hz
 rw [h1] at hz
 simp only at hz
 split at hz <;> try (cases hz; done)
 rename_i v h2
 rw [Bool.and_eq_true] at hz
 have hcells : v.cells.size = sz := by simpa using hz.1
 have e2 := VR.inv_int hb2
 obtain ⟨G', g1, g2⟩ := h.newSl (t := e) (c := ((List.replicate c0.toNat v.cells.toList).flatten).toArray) (m := 0) (cs := []) (cap := c0.toNat) (sz := sz) (ob := match d with | some i => .slot i 0 | none => .none) hd (fun i hi => by subst hi; rfl) (fun hn => by subst hn; rfl) (by simp) (Nat.zero_le _) (by simp [hcells]) Fl.nil
  (fun j x hx => by simp at hx) (0, 0) ⟨fun k hk hh => by omega, Nat.le_refl _⟩ (own := true) (fun _ => .inl rfl) (fun k y _ hy => by
   have hm : y ∈ (List.replicate c0.toNat v.cells.toList).flatten := by
    rw [List.getElem?_toArray] at hy; exact List.mem_of_getElem? hy
   simp only [List.mem_flatten, List.mem_replicate] at hm
   obtain ⟨l, ⟨_, rfl⟩, hm⟩ := hm
   exact List.all_eq_true.1 hz.2 y hm)
 intro pos after g next Q hn
 refine wp_value (v := .slice (some ⟨w.heap.size, 0, none⟩) 0 c0.toNat) (w' := w.alloc (.cells ((List.replicate c0.toNat v.cells.toList).flatten).toArray e)) ?_ (hn G' _ _ _ g1 g2 q4)
 have := run_makeSlice (k := .i64) (k' := k') (l := 0) (elemOfSl_eq he) h1 h2 (by rw [hcells, h3]) (by omega) (Int.le_refl 0) q2 (by rw [h7]; exact q3) w
 have e0 : a.eval (.const (.int .i64 0)) = .int .i64 0 := rfl
 simp [execOp, e0, e2, this]
theorem eff_makeMap (h : Inv G n D σ a w) {op : Op} {ty : TypeId} {d : Option Nat} {K : St → Prop} (hd : dstOK n d = true) (hc : chkOp P op ty .makeMap = true) (hw : iwp P .makeMap d σ K) : Eff P G n D w a op ty d K := by
  cases op <;> first | (simp [chkOp] at hc; done) | skip
  rename_i t r
  cases r with
  | some r => simp [chkOp] at hc
  | none =>
  have hp := (alloc_facts h.good (.map #[] 0) .sh 0).2.1
  have hs : StoreR (G.upd w.heap.size .sh 0) (w.alloc (.map #[] 0)) (σ.s.set w.heap.size (.map [])) := by
    intro b o hb
    unfold Store.set at hb
    by_cases he : b = w.heap.size
    · rw [if_pos he] at hb
      injection hb with hb
      subst hb; subst he
      exact ⟨by simp, by simp, #[], 0, heap_alloc_new w _, rfl, fun j x y hx => by simp at hx⟩
    · rw [if_neg he] at hb
      exact alloc_store h.store h.good _ .sh 0 b o hb
  obtain ⟨h1, h2⟩ := h.alloc (.map #[] 0) .sh 0 d hd (.mp w.heap.size) (.map (some w.heap.size)) σ.lp hs (fun _ hx => hx) (fun i t' _ ht => ht.elim) (fun i t' _ ⟨cs', hcs'⟩ => by cases hcs')
    (fun i hi => ⟨.mp _, trivial⟩)
  intro pos after g next Q hn
  refine wp_value (v := .map (some w.heap.size)) (w' := w.alloc (.map #[] 0)) ?_ (hn _ _ _ _ (by cases d <;> exact h1) h2 (hw w.heap.size (h.store.get_none h.good)))
  simp [execOp, Instr.makeMap]
end
end Go.AB
end

section
namespace Go.AB
open Go Go.MapKept
def KV : KeyK → Value → Prop
 | .int k, v => ∃ n, v = .int k n
 | .str, v => ∃ s, v = .string s
 | .bool, v => ∃ b, v = .bool b
 | .bytes n, v => ∃ xs : Array Value, v = .agg xs ∧ xs.size = n ∧ ∀ u ∈ xs, ∃ m, u = .int .u8 m
section
variable {P : Program} {w : World}
structure KeyRun (P : Program) (kt : TypeId) (kk : KeyK) : Prop where
 check : ∀ (w : World) (em : Bool) (v : Value), KV kk v → (Instr.checkKey em 10000 kt v).run P w = .ok () w
 find : ∀ (w : World) (x : Value), KV kk x → ∀ es : List MapEntry, (∀ e ∈ es, KV kk e.key) →
  ((Instr.findKey kt x es).run P w = .ok none w ∧ ∀ e ∈ es, e.key ≠ x) ∨ ∃ j e, (Instr.findKey kt x es).run P w = .ok (some (j, e.val)) w ∧ es[j]? = some e ∧ e.key = x ∧ ∀ (i : Nat) (e' : MapEntry), i < j → es[i]? = some e' → e'.key ≠ x
 stays : ∀ (w : World) (v : Value), KV kk v → (Instr.keyThatStays v v).run P w = .ok v w
theorem findNow_first {d : TypeDesc} {k : Value} (hk : IsKey d k) : ∀ (l : List MapEntry) (i : Nat), (∀ x ∈ l, IsKey d x.key) →
    (Instr.findNow d k l i = some none ∧ ∀ x ∈ l, x.key ≠ k) ∨ ∃ j e, Instr.findNow d k l i = some (some (i + j, e.val)) ∧ l[j]? = some e ∧ e.key = k ∧ ∀ (m : Nat) (e' : MapEntry), m < j → l[m]? = some e' → e'.key ≠ k
  | [], _, _ => .inl ⟨rfl, by simp⟩
  | e :: es, i, h => by
    obtain ⟨r, hr, hiff⟩ := sameNow_of_keys hk (h e (.head _))
    cases r with
    | true => exact .inr ⟨0, e, by simp [Instr.findNow, hr], rfl, (hiff.1 rfl).symm, fun m e' hm => by omega⟩
    | false =>
      have hne : e.key ≠ k := fun q => by have := hiff.2 q.symm; cases this
      rcases findNow_first hk es (i + 1) (fun x hx => h x (.tail _ hx)) with ⟨h1, h2⟩ | ⟨j, e', h1, h2, h3, h4⟩
      · exact .inl ⟨by simp [Instr.findNow, hr, h1], fun x hx => by
          cases hx with
          | head => exact hne
          | tail _ hx => exact h2 x hx⟩
      · refine .inr ⟨j + 1, e', by simp [Instr.findNow, hr, h1]; omega, by simpa using h2, h3, fun m x hm hx => ?_⟩
        cases m with
        | zero => simp at hx; subst hx; exact hne
        | succ m => exact h4 m x (by omega) (by simpa using hx)
theorem keyRun_scalar {kt : TypeId} {d : TypeDesc} {kk : KeyK} (hd : P.underlying kt = some d) (hK : ∀ v, KV kk v → IsKey d v) : KeyRun P kt kk where
  check := fun w em v hv => run_checkKey hd (hK v hv) em 9999
  find := fun w x hx es hes => by
    rcases findNow_first (hK x hx) es 0 (fun e he => hK _ (hes e he)) with ⟨h1, h2⟩ | ⟨j, e, h1, h2, h3, h4⟩
    · exact .inl ⟨run_findKey hd h1, h2⟩
    · exact .inr ⟨j, e, by rw [run_findKey hd h1, Nat.zero_add], h2, h3, h4⟩
  stays := fun w v hv => run_keyThatStays (hK v hv)
theorem run_partU8 {e off : Nat} {i : TypeInfo} (he : P.underlying e = some (.int .u8)) (hi : P.info? e = some i) (h1 : i.size = 1) (xs : Array Value) (x : Value) (hx : xs[off]? = some x) (w : World) : (part e xs off).run P w = .ok x w := by
 have hag : (isAgg e).run P w = .ok false w := run_isAgg (multi := false) (by unfold aggIs; rw [he]; rfl) w
 simp [part, hag, hx]
theorem run_eqItems {e : TypeId} {i : TypeInfo} (he : P.underlying e = some (.int .u8)) (hi : P.info? e = some i) (h1 : i.size = 1) (d : Nat) (xs ys : Array Value) (n : Nat)
    (hx : ∀ j, j < n → ∃ a b, xs[j]? = some (.int .u8 a) ∧ ys[j]? = some (.int .u8 b)) : ∀ (l : List Nat), (∀ j ∈ l, j < n) → ∀ w,
    ∃ r : Bool, (Op.eqItems (d + 1) e (P.cellsOf e) xs ys l).run P w = .ok r w ∧ (r = true ↔ ∀ j ∈ l, xs[j]? = ys[j]?)
  | [], _, w => ⟨true, by simp [Op.eqItems], by simp⟩
  | j :: l, hl, w => by
    obtain ⟨a, b, ha, hb⟩ := hx j (hl j (.head _))
    have hc : P.cellsOf e = 1 := by unfold Program.cellsOf; rw [hi]; simpa using h1
    have e1 := run_partU8 he hi h1 xs _ ha w
    have e2 := run_partU8 he hi h1 ys _ hb w
    have e3 := run_equalIn_int (P := P) w d e .u8 .u8 a b he
    obtain ⟨r, hr, hiff⟩ := run_eqItems he hi h1 d xs ys n hx l (fun j hj => hl j (.tail _ hj)) w
    rw [hc] at hr
    by_cases hab : a = b
    · subst hab
      refine ⟨r, ?_, ?_⟩
      · simp only [Op.eqItems, hc, Nat.mul_one, Sem.run_bind, e1, e2, e3, Result.andThen_ok, beq_self_eq_true, Bool.not_true, Bool.false_eq_true, if_false]
        exact hr
      · rw [hiff]
        simp [ha, hb]
    · refine ⟨false, ?_, ?_⟩
      · have : (a == b) = false := by simpa using hab
        simp [Op.eqItems, hc, e1, e2, e3, this]
      · simp [ha, hb, hab]
theorem run_equal_bytes {kt e : TypeId} {n : Nat} {i : TypeInfo} (hk : P.underlying kt = some (.array n e)) (he : P.underlying e = some (.int .u8)) (hi : P.info? e = some i) (h1 : i.size = 1) {x y : Value} (hx : KV (.bytes n) x) (hy : KV (.bytes n) y) (w : World) :
    ∃ r : Bool, (Op.equal kt x y).run P w = .ok r w ∧ (r = true ↔ y = x) := by
  obtain ⟨xs, rfl, hxs, hx'⟩ := hx
  obtain ⟨ys, rfl, hys, hy'⟩ := hy
  have hxy : ∀ j, j < n → ∃ a b, xs[j]? = some (.int .u8 a) ∧ ys[j]? = some (.int .u8 b) := fun j hj => by
    obtain ⟨a, ha⟩ := hx' xs[j] (Array.getElem_mem _)
    obtain ⟨b, hb⟩ := hy' ys[j] (Array.getElem_mem _)
    exact ⟨a, b, by rw [Array.getElem?_eq_getElem (by omega), ha], by rw [Array.getElem?_eq_getElem (by omega), hb]⟩
  obtain ⟨r, hr, hiff⟩ := run_eqItems he hi h1 9997 xs ys n hxy (List.range n) (fun j hj => List.mem_range.1 hj) w
  refine ⟨r, ?_, ?_⟩
  · show (Op.equalIn (9999 + 1) kt (.agg xs) (.agg ys)).run P w = _
    rw [run_equalIn_array w 9999 xs ys hk hi]
    obtain ⟨r', hr', hiff'⟩ := run_eqItems he hi h1 9998 xs ys n hxy (List.range n) (fun j hj => List.mem_range.1 hj) w
    have : r = r' := by
      cases r <;> cases r' <;> simp_all
    rw [this]; exact hr'
  · rw [hiff]
    constructor
    · intro h
      have : ys = xs := by
        apply Array.ext (by omega)
        intro j h1 h2
        have := h j (List.mem_range.2 (by omega))
        rw [Array.getElem?_eq_getElem (by omega), Array.getElem?_eq_getElem (by omega)] at this
        injection this with this; exact this.symm
      rw [this]
    · intro h j _
      injection h with h
      rw [h]
theorem findAsking_first {kt e : TypeId} {n : Nat} {i : TypeInfo} (hk : P.underlying kt = some (.array n e)) (he : P.underlying e = some (.int .u8)) (hi : P.info? e = some i) (h1 : i.size = 1) {k : Value} (hkv : KV (.bytes n) k) : ∀ (l : List MapEntry) (i : Nat), (∀ x ∈ l, KV (.bytes n) x.key) → ∀ w : World,
    ((Instr.findAsking kt k l i).run P w = .ok none w ∧ ∀ x ∈ l, x.key ≠ k) ∨ ∃ j e, (Instr.findAsking kt k l i).run P w = .ok (some (i + j, e.val)) w ∧ l[j]? = some e ∧ e.key = k ∧ ∀ (m : Nat) (e' : MapEntry), m < j → l[m]? = some e' → e'.key ≠ k
  | [], _, _, w => .inl ⟨by simp [Instr.findAsking], by simp⟩
  | x :: es, i0, h, w => by
    obtain ⟨r, hr, hiff⟩ := run_equal_bytes hk he hi h1 hkv (h x (.head _)) w
    cases r with
    | true => exact .inr ⟨0, x, by simp [Instr.findAsking, hr], rfl, hiff.1 rfl, fun m e' hm => by omega⟩
    | false =>
      have hne : x.key ≠ k := fun q => by have := hiff.2 q; cases this
      rcases findAsking_first hk he hi h1 hkv es (i0 + 1) (fun x hx => h x (.tail _ hx)) w with ⟨h1, h2⟩ | ⟨j, e', h1, h2, h3, h4⟩
      · exact .inl ⟨by simp [Instr.findAsking, hr, h1], fun y hy => by
          cases hy with
          | head => exact hne
          | tail _ hy => exact h2 y hy⟩
      · refine .inr ⟨j + 1, e', by simp [Instr.findAsking, hr, h1]; omega, by simpa using h2, h3, fun m x hm hx => ?_⟩
        cases m with
        | zero => simp at hx; subst hx; exact hne
        | succ m => exact h4 m x (by omega) (by simpa using hx)
theorem checkKey_bytes {kt e : TypeId} {n : Nat} {i : TypeInfo} (hk : P.underlying kt = some (.array n e)) (he : P.underlying e = some (.int .u8)) (hi : P.info? e = some i) (h1 : i.size = 1) {k : Value} (hkv : KV (.bytes n) k) (em : Bool) (w : World) : (Instr.checkKey em 10000 kt k).run P w = .ok () w := by
 obtain ⟨xs, rfl, hxs, hx'⟩ := hkv
 show (Instr.checkKey em (9999 + 1) kt (.agg xs)).run P w = _
 unfold Instr.checkKey
 simp only [Sem.run_bind, run_underlying hk, Result.andThen_ok]
 have key : ∀ (l : List Nat), (∀ j ∈ l, j < n) → ∀ w : World, (forIn (m := Sem) l PUnit.unit fun i _ => do
   let a ← part e xs (i * (← sizeOf e))
   Instr.checkKey em 9999 e a
   pure (ForInStep.yield PUnit.unit)).run P w = .ok PUnit.unit w := by
  intro l
  induction l with
  | nil => intro _ w; simp
  | cons j l ih =>
   intro hl w
   have hj := hl j (.head _)
   obtain ⟨a, ha⟩ := hx' xs[j] (Array.getElem_mem _)
   have e1 := run_partU8 he hi h1 xs (.int .u8 a) (off := j) (by rw [Array.getElem?_eq_getElem (by omega), ha]) w
   have e2 : (Instr.checkKey em (9998 + 1) e (.int .u8 a)).run P w = .ok () w := run_checkKey (d := .int .u8) (k := .int .u8 a) he (show IsKey (.int .u8) (.int .u8 a) from rfl) em 9998
   have hs : sizeIs P e 1 = true := by unfold sizeIs; rw [hi]; simpa using h1
   rw [List.forIn_cons]
   simp only [Sem.run_bind, run_sizeOf hs w, Result.andThen_ok, Nat.mul_one, e1, e2, Sem.run_pure]
   exact ih (fun j hj => hl j (.tail _ hj)) w
 simp only [Std.Legacy.Range.forIn_eq_forIn_range', Std.Legacy.Range.size, Nat.sub_zero, Nat.add_one_sub_one, Nat.div_one]
 rw [key (List.range' 0 n) (fun j hj => by simp at hj; omega) w]
 simp
theorem keyRun_of {kt : TypeId} {kk : KeyK} (h : keyT P kt kk = true) : KeyRun P kt kk := by
  cases kk with
  | int k =>
    simp only [keyT] at h
    split at h <;> first | (cases h; done) | skip
    rename_i k' hk
    have : k = k' := by simpa [kEq] using h
    subst this
    exact keyRun_scalar hk fun v ⟨n, e⟩ => by subst e; rfl
  | str =>
    simp only [keyT] at h
    split at h <;> first | (cases h; done) | skip
    rename_i hk
    exact keyRun_scalar hk fun v ⟨n, e⟩ => by subst e; trivial
  | bool =>
    simp only [keyT] at h
    split at h <;> first | (cases h; done) | skip
    rename_i hk
    exact keyRun_scalar hk fun v ⟨n, e⟩ => by subst e; trivial
  | bytes n =>
    simp only [keyT] at h
    split at h <;> first | (cases h; done) | skip
    rename_i m e hk
    simp only [Bool.and_eq_true, beq_iff_eq] at h
    obtain ⟨⟨rfl, he⟩, hs⟩ := h
    split at he <;> first | (cases he; done) | skip
    rename_i he'
    have he := he'
    unfold sizeIs at hs
    split at hs <;> first | (cases hs; done) | skip
    rename_i i hi
    have h1 : i.size = 1 := by simpa using hs
    refine ⟨fun w em v hv => checkKey_bytes hk he hi h1 hv em w, fun w x hx es hes => ?_, fun w v hv => ?_⟩
    · obtain ⟨xs, rfl, hx1, hx2⟩ := hx
      have hrun : ∀ r, (Instr.findAsking kt (.agg xs) es).run P w = .ok r w → (∀ e ∈ es, True) → ((Instr.findNow (.array m e) (.agg xs) es 0 = none) ∨ es = []) → (Instr.findKey kt (.agg xs) es).run P w = .ok r w := by
        intro r hr _ hn
        rcases hn with hn | hn
        · simp [Instr.findKey, run_underlying hk, hn, hr]
        · subst hn
          simp [Instr.findAsking] at hr
          simp [Instr.findKey, run_underlying hk, Instr.findNow, hr]
      have hn : Instr.findNow (.array m e) (.agg xs) es 0 = none ∨ es = [] := by
        cases es with
        | nil => exact .inr rfl
        | cons x l => exact .inl (by simp [Instr.findNow, Instr.sameNow])
      rcases findAsking_first hk he hi h1 ⟨xs, rfl, hx1, hx2⟩ es 0 hes w with ⟨q1, q2⟩ | ⟨j, e', q1, q2, q3, q4⟩
      · exact .inl ⟨hrun _ q1 (fun _ _ => trivial) hn, q2⟩
      · rw [Nat.zero_add] at q1
        exact .inr ⟨j, e', hrun _ q1 (fun _ _ => trivial) hn, q2, q3, q4⟩
    · obtain ⟨xs, rfl, hx1, hx2⟩ := hv
      have : Instr.sameBits 10000 (.agg xs) (.agg xs) = true := by
        show Instr.sameBits (9999 + 1) (.agg xs) (.agg xs) = true
        unfold Instr.sameBits
        simp only [beq_self_eq_true, Bool.true_and, List.all_eq_true]
        intro p hp
        have h2 := List.of_mem_zip hp
        have h3 : p.1 = p.2 := by
          obtain ⟨i, hi⟩ := List.mem_iff_getElem?.1 hp
          rw [List.getElem?_zip_eq_some] at hi
          rw [hi.1] at hi
          exact Option.some.inj hi.2
        obtain ⟨mm, hm⟩ := hx2 p.1 (by simpa using h2.1)
        obtain ⟨p1, p2⟩ := p
        simp only at h3 hm ⊢
        subst h3; subst hm
        simp [Instr.sameBits]
      simp [Instr.keyThatStays, this]
theorem keyOK_kv {kk : KeyK} {a : AV} {v : Value} {R : Nat → Nat} (h : keyOK kk a = true) (hv : VR w R a v) : KV kk v := by
  unfold keyOK at h
  split at h
  · rename_i k k' n
    have : k = k' := by simpa [kEq] using h
    subst this
    exact ⟨n, VR.inv_int hv⟩
  · exact ⟨_, VR.inv_str hv⟩
  · exact ⟨_, VR.inv_bool hv⟩
  · rename_i n cs
    simp only [Bool.and_eq_true, beq_iff_eq] at h
    obtain ⟨vs, rfl, hs, hr, _⟩ := VR.inv_agg hv
    refine ⟨vs, rfl, by omega, fun u hu => ?_⟩
    obtain ⟨i, hi⟩ := Array.mem_iff_getElem?.1 hu
    have hlt : i < cs.length := by have := (Array.getElem?_eq_some_iff.1 hi).1; omega
    have hc := List.getElem?_eq_getElem hlt
    have h8 : isU8 cs[i] = true := List.all_eq_true.1 h.2 _ (List.getElem_mem hlt)
    have hvr := hr i _ u hc hi
    generalize cs[i] = c at h8 hvr
    unfold isU8 at h8
    split at h8
    · exact ⟨_, VR.inv_int hvr⟩
    · cases h8
  · cases h
theorem keyEqs_u8 : ∀ (cs ds : List AV), cs.all isU8 = true → ds.all isU8 = true → (keyEqs cs ds = true ↔ cs = ds)
 | [], [], _, _ => by simp [keyEqs]
 | [], _ :: _, _, _ => by simp [keyEqs]
 | _ :: _, [], _, _ => by simp [keyEqs]
 | a :: cs, b :: ds, h1, h2 => by
  simp only [List.all_cons, Bool.and_eq_true] at h1 h2
  have ih := keyEqs_u8 cs ds h1.2 h2.2
  have ha := h1.1; have hb := h2.1
  unfold isU8 at ha hb
  split at ha <;> first | (cases ha; done) | skip
  split at hb <;> first | (cases hb; done) | skip
  simp [keyEqs, keyEq, ih]
theorem keyIs_iff {kk : KeyK} {a b : AV} {x y : Value} {R : Nat → Nat} (ha : keyOK kk a = true) (hb : keyOK kk b = true) (hx : VR w R a x) (hy : VR w R b y) : keyIs a b = true ↔ y = x := by
  cases kk with
  | int k =>
    cases a <;> first | (simp [keyOK] at ha; done) | skip
    cases b <;> first | (simp [keyOK] at hb; done) | skip
    rename_i k1 n1 k2 n2
    have e1 : k = k1 := by simpa [keyOK, kEq] using ha
    have e2 : k = k2 := by simpa [keyOK, kEq] using hb
    subst e1; subst e2
    rw [VR.inv_int hx, VR.inv_int hy]
    show ((n1 == n2) && true) = true ↔ _
    rw [Bool.and_true, beq_iff_eq]
    exact ⟨fun h => by rw [h], fun h => by injection h with _ h; exact h.symm⟩
  | str =>
    cases a <;> first | (simp [keyOK] at ha; done) | skip
    cases b <;> first | (simp [keyOK] at hb; done) | skip
    rename_i s1 s2
    rw [VR.inv_str hx, VR.inv_str hy]
    show ((s1 == s2) && true) = true ↔ _
    rw [Bool.and_true, beq_iff_eq]
    refine ⟨fun h => by rw [h], fun h => ?_⟩
    injection h with h
    have : s2.toArray = s1.toArray := congrArg ByteArray.data h
    have := congrArg Array.toList this
    simpa using this.symm
  | bool =>
    cases a <;> first | (simp [keyOK] at ha; done) | skip
    cases b <;> first | (simp [keyOK] at hb; done) | skip
    rename_i s1 s2
    rw [VR.inv_bool hx, VR.inv_bool hy]
    show ((s1 == s2) && true) = true ↔ _
    rw [Bool.and_true, beq_iff_eq]
    exact ⟨fun h => by rw [h], fun h => by injection h with h; exact h.symm⟩
  | bytes n =>
    cases a <;> first | (simp [keyOK] at ha; done) | skip
    cases b <;> first | (simp [keyOK] at hb; done) | skip
    rename_i cs ds
    simp only [keyOK, Bool.and_eq_true, beq_iff_eq] at ha hb
    show keyEqs cs ds = true ↔ _
    rw [keyEqs_u8 cs ds ha.2 hb.2]
    obtain ⟨vs, rfl, h1, h2, _⟩ := VR.inv_agg hx
    obtain ⟨us, rfl, k1, k2, _⟩ := VR.inv_agg hy
    constructor
    · intro e
      subst e
      congr 1
      apply Array.ext (by omega)
      intro j q1 q2
      have hlt : j < cs.length := by omega
      have hc := List.getElem?_eq_getElem hlt
      have r1 := h2 j _ vs[j] hc (Array.getElem?_eq_getElem q2)
      have r2 := k2 j _ us[j] hc (Array.getElem?_eq_getElem q1)
      have h8 : isU8 cs[j] = true := List.all_eq_true.1 ha.2 _ (List.getElem_mem hlt)
      generalize cs[j] = c at h8 r1 r2
      unfold isU8 at h8
      split at h8
      · rw [VR.inv_int r1, VR.inv_int r2]
      · cases h8
    · intro e
      injection e with e
      subst e
      apply List.ext_getElem (by omega)
      intro j q1 q2
      have r1 := h2 j _ us[j] (List.getElem?_eq_getElem q1) (Array.getElem?_eq_getElem (by omega))
      have r2 := k2 j _ us[j] (List.getElem?_eq_getElem q2) (Array.getElem?_eq_getElem (by omega))
      have h8 : isU8 cs[j] = true := List.all_eq_true.1 ha.2 _ (List.getElem_mem q1)
      have h9 : isU8 ds[j] = true := List.all_eq_true.1 hb.2 _ (List.getElem_mem q2)
      generalize cs[j] = c at h8 r1 ⊢
      generalize ds[j] = d at h9 r2 ⊢
      unfold isU8 at h8 h9
      split at h8 <;> first | (cases h8; done) | skip
      split at h9 <;> first | (cases h9; done) | skip
      have := VR.inv_int r1
      rw [VR.inv_int r2] at this
      injection this with _ this
      rw [this]
end
end Go.AB
end

section
namespace Go.AB
open Go Go.MapKept
section
variable {P : Program} {G : Gh} {n : Nat} {D : List Deferred} {σ : St} {a : Act} {w : World}
theorem findK_run {R : Nat → Nat} {kk : KeyK} {k : AV} {x : Value} (hk : keyOK kk k = true) (hx : VR w R k x) : ∀ (es : List (AV × AV)) (l : List MapEntry), l.length = es.length →
    (∀ (j : Nat) (p : AV × AV) (y : MapEntry), es[j]? = some p → l[j]? = some y → VR w R p.1 y.key ∧ VR w R p.2 y.val) → keysOK kk es = true →
    ((∀ e ∈ l, e.key ≠ x) → findK k es = none ∧ ∀ v, putK k v es = es ++ [(k, v)]) ∧
    (∀ (j : Nat) (e : MapEntry), l[j]? = some e → e.key = x → (∀ (i : Nat) (e' : MapEntry), i < j → l[i]? = some e' → e'.key ≠ x) → ∃ p, es[j]? = some p ∧ findK k es = some p.2 ∧ ∀ v, putK k v es = es.set j (k, v))
  | [], [], _, _, _ => ⟨fun _ => ⟨rfl, fun v => rfl⟩, fun j e hj => by simp at hj⟩
  | [], _ :: _, hl, _, _ => by simp at hl
  | _ :: _, [], hl, _, _ => by simp at hl
  | p :: es, y :: l, hl, hr, hks => by
    have hks' : keyOK kk p.1 = true ∧ keysOK kk es = true := by simpa [keysOK] using hks
    have h0 := (hr 0 p y rfl rfl).1
    have hiff := keyIs_iff hk hks'.1 hx h0
    obtain ⟨i1, i2⟩ := findK_run hk hx es l (by simpa using hl) (fun j q z hq hz => hr (j + 1) q z (by simpa using hq) (by simpa using hz)) hks'.2
    constructor
    · intro hne
      have hf : keyIs k p.1 = false := by
        cases hh : keyIs k p.1 with
        | false => rfl
        | true => exact absurd (hiff.1 hh) (hne y (.head _))
      obtain ⟨j1, j2⟩ := i1 fun e he => hne e (.tail _ he)
      refine ⟨by simp [findK, hf, j1], fun v => by simp [putK, hf, j2 v]⟩
    · intro j e hj hek hfirst
      cases j with
      | zero =>
        simp at hj; subst hj
        have hf : keyIs k p.1 = true := hiff.2 hek
        exact ⟨p, rfl, by simp [findK, hf], fun v => by simp [putK, hf]⟩
      | succ j =>
        have hf : keyIs k p.1 = false := by
          cases hh : keyIs k p.1 with
          | false => rfl
          | true => exact absurd (hiff.1 hh) (hfirst 0 y (by omega) rfl)
        obtain ⟨q, q1, q2, q3⟩ := i2 j e (by simpa using hj) hek fun i e' hi he' => hfirst (i + 1) e' (by omega) (by simpa using he')
        exact ⟨q, by simpa using q1, by simp [findK, hf, q2], fun v => by simp [putK, hf, q3 v]⟩
theorem Inv.putPlain (h : Inv G n D σ a w) {d : Option Nat} (hd : dstOK n d = true) {av : AV} {v : Value} (hi : isV av = true) (hv : VR w G.R av v) : Inv G n D (σ.put d (view av)) (a.put d v) w := by
 have h2 : NR G w σ a (view av) v := NR.view hi hv
 have := h.put (s' := σ.s) (lp' := σ.lp) d (fun i hi => by subst hi; simpa [dstOK] using hd) (view av) v h.good (Pres.refl G w) h.store (fun _ hx => hx) (fun i t _ ht => (not_holdsLp (isV_view hi) t ht).elim) (fun i t _ ⟨cs, hcs⟩ => (not_loc (isV_view hi) cs hcs).elim)
  (fun _ _ _ _ => ⟨rfl, rfl, rfl⟩) (fun _ _ _ _ _ _ hcc => ⟨hcc, rfl, rfl⟩) (fun i hdi => ValS.mk_view hi hv)
 cases d <;> exact this
theorem Inv.putTup (h : Inv G n D σ a w) {d : Option Nat} (hd : dstOK n d = true) {av : AV} {v : Value} (b : Bool) (hv : VR w G.R av v) : Inv G n D (σ.put d (.tup [view av, .bool b])) (a.put d (.tuple #[v, .bool b])) w := by
 have := h.put (s' := σ.s) (lp' := σ.lp) d (fun i hi => by subst hi; simpa [dstOK] using hd) (.tup [view av, .bool b]) (.tuple #[v, .bool b]) h.good (Pres.refl G w) h.store (fun _ hx => hx) (fun i t _ ht => ht.elim) (fun i t _ ⟨cs, hcs⟩ => by cases hcs)
  (fun _ _ _ _ => ⟨rfl, rfl, rfl⟩) (fun _ _ _ _ _ _ hcc => ⟨hcc, rfl, rfl⟩) (fun i hdi => ⟨_, rfl, rfl, fun j x y hx hy => by
   match j with
   | 0 => simp at hx hy; subst hx; subst hy; exact ⟨hv.view, OwnR.view ..⟩
   | 1 => simp at hx hy; subst hx; subst hy; exact ⟨.bool b, trivial⟩
   | j + 2 => simp at hx⟩)
 cases d <;> exact this
theorem BR.key {x : IX} {kk : KeyK} {av : AV} {v : Value} (hk : keyOK kk av = true) (h : BR G w σ a x av v) : VR w G.R av v := by
 cases av <;> first | exact h | (cases kk <;> simp [keyOK] at hk)
theorem zeroAV_run {t : TypeId} {z : AV} (h : zeroAV P t z = true) : ∃ v, (∀ w : World, (zeroValue t).run P w = .ok v w) ∧ (∀ (w : World) (R : Nat → Nat), VR w R z v) ∧ isV z = true := by
  unfold zeroAV at h
  split at h <;> first | (cases h; done) | skip
  rename_i i hi
  split at h <;> first | (cases h; done) | skip
  rename_i v hv
  refine ⟨v, fun w => by simp [zeroValue, typeInfo, hi, hv], ?_⟩
  split at h
  · exact ⟨fun w R => cRs_agg h w R, rfl⟩
  · exact ⟨fun w R => cR_vr h w R, cR_isV h⟩
theorem eff_lookup (h : Inv G n D σ a w) {op : Op} {ty : TypeId} {kk : KeyK} {z : AV} {ok : Bool} {x k : IX} {d : Option Nat} {K : St → Prop} (hd : dstOK n d = true) (hc : chkOp P op ty (.lookup kk z ok x k) = true) (hw : iwp P (.lookup kk z ok x k) d σ K) : Eff P G n D w a op ty d K := by
  cases op <;> first | (simp [chkOp] at hc; done) | skip
  rename_i t y j ok'
  simp only [chkOp, Bool.and_eq_true, beq_iff_eq] at hc
  obtain ⟨⟨⟨hy, hj⟩, rfl⟩, hc⟩ := hc
  split at hc <;> try (cases hc; done)
  rename_i kt et ht
  simp only [Bool.and_eq_true] at hc
  obtain ⟨hkt, hz⟩ := hc
  have hrun := keyRun_of hkt
  obtain ⟨zv, hz1, hz2, hz3⟩ := zeroAV_run hz
  have hb := BR.of_inv h hy
  have hbk := BR.of_inv h hj
  have hw' : prK σ d K (lookupV kk z ok σ.s (xg true σ k) (xg true σ x)) := hw
  generalize xg true σ x = xv at hb hw'
  generalize xg true σ k = kv at hbk hw'
  -- what comes up
  have fin : ∀ (av : AV) (v : Value) (b : Bool), (ok = false → isV av = true) → VR w G.R av v → K (σ.put d (okV ok av b)) → view av = av →
      (∀ (pos : String) (after : Array Edge) (g : Option (Nat × Bool)), (execOp a.eval ⟨d, .lookup t y j ok, ty, pos, after, g⟩).run P w = .ok (.value (if ok then .tuple #[v, .bool b] else v)) w) → Eff P G n D w a (.lookup t y j ok) ty d K := by
    intro av v b hi hvr hk hvw hr pos after g next Q hn
    refine wp_value (hr pos after g) (hn G _ _ _ ?_ (Pres.refl G w) hk)
    cases ok with
    | true =>
      have := h.putTup hd b hvr
      rw [hvw] at this
      exact this
    | false =>
      have := h.putPlain hd (hi rfl) hvr
      rw [hvw] at this
      exact this
  have pl : ∀ {av : AV} {b : Bool}, plainL ok (okV ok av b) = true → ok = false → isV av = true := by
    intro av b hp ho
    subst ho
    exact hp
  unfold lookupV at hw'
  split at hw'
  · rename_i b
    have e1 : a.eval y = .map (some b) := VR.inv_mp hb
    unfold lookupO at hw'
    split at hw' <;> try (exact hw'.elim)
    rename_i es hes
    unfold ckL at hw'
    cases hp : plainL ok (lookV z ok (findK kv es)) with
    | false => rw [hp] at hw'; exact hw'.elim
    | true =>
    rw [hp] at hw'
    obtain ⟨⟨hkk, hks⟩, hK⟩ := hw'
    have hvk := hbk.key hkk
    have hkv := keyOK_kv hkk hvk
    obtain ⟨_, _, ents, clock, hh, hsz, hent⟩ := h.store b _ hes
    have hall : ∀ e ∈ ents.toList, KV kk e.key := fun e he => by
      obtain ⟨i, hi⟩ := List.mem_iff_getElem?.1 he
      have hlt : i < es.length := by rw [← hsz]; have := (List.getElem?_eq_some_iff.1 hi).1; simpa using this
      have h1 := hent i _ e (List.getElem?_eq_getElem hlt) (by simpa using hi)
      exact keyOK_kv (List.all_eq_true.1 hks _ (List.getElem_mem hlt)) h1.1
    obtain ⟨f1, f2⟩ := findK_run hkk hvk es ents.toList (by simpa using hsz) (fun j p y hp hy => hent j p y hp (by simpa using hy)) hks
    have hget := Go.MapKept.run_getObj_map (P := P) hh
    have hck := hrun.check w ents.isEmpty _ hkv
    rcases hrun.find w _ hkv ents.toList hall with ⟨q1, q2⟩ | ⟨m, e, q1, q2, q3, q4⟩
    · obtain ⟨g1, _⟩ := f1 q2
      rw [g1] at hK hp
      refine fin (view z) zv false (pl hp) (hz2 w G.R).view hK (view_view _) fun pos after g => ?_
      cases ok <;> simp [execOp, Instr.lookup, run_underlying ht, e1, hget, hck, q1, hz1]
    · obtain ⟨p, g1, g2, _⟩ := f2 m e q2 q3 q4
      rw [g2] at hK hp
      have hvr := (hent m p e g1 (by simpa using q2)).2
      refine fin (view p.2) e.val true (pl hp) hvr.view hK (view_view _) fun pos after g => ?_
      cases ok <;> simp [execOp, Instr.lookup, run_underlying ht, e1, hget, hck, q1]
  · have e1 : a.eval y = .map none := VR.inv_nilm hb
    unfold ckL at hw'
    cases hp : plainL ok (okV ok (view z) false) with
    | false => rw [hp] at hw'; exact hw'.elim
    | true =>
    rw [hp] at hw'
    obtain ⟨hkk, hK⟩ := hw'
    have hkv := keyOK_kv hkk (hbk.key hkk)
    have hck := hrun.check w true _ hkv
    refine fin (view z) zv false (pl hp) (hz2 w G.R).view hK (view_view _) fun pos after g => ?_
    · rcases hrun.find w _ hkv [] (by simp) with ⟨q1, _⟩ | ⟨m, e, _, q2, _⟩
      · cases ok <;> simp [execOp, Instr.lookup, run_underlying ht, e1, hck, q1, hz1]
      · simp at q2
  · exact hw'.elim
theorem Inv.remap (h : Inv G n D σ a w) {b : Nat} {ents ents' : Array MapEntry} {clock clock' : Nat} (hb : w.heap[b]? = some (.map ents clock)) (ho : G.O b = .sh) (hR : G.R b = 0) {es' : List (AV × AV)}
    (hent : ents'.size = es'.length ∧ ∀ (j : Nat) (x : AV × AV) (y : MapEntry), es'[j]? = some x → ents'[j]? = some y → EntR G w x y) :
    Inv G n D { σ with s := σ.s.set b (.map es') } a { w with heap := w.heap.setIfInBounds b (.map ents' clock') } ∧ Pres G w G { w with heap := w.heap.setIfInBounds b (.map ents' clock') } := by
  obtain ⟨hs1, hs2⟩ := heap_set (w := w) (o' := .map ents' clock') hb
  have hcell : ∀ c k, ({ w with heap := w.heap.setIfInBounds b (.map ents' clock') } : World).cell? ⟨c, k, none⟩ = w.cell? ⟨c, k, none⟩ := by
    intro c k
    by_cases hc : c = b
    · subst hc
      unfold World.cell?
      simp only [hs1, hb]
    · exact World.cell?_of_block (hs2 c hc)
  have hsz : ({ w with heap := w.heap.setIfInBounds b (.map ents' clock') } : World).heap.size = w.heap.size := by simp
  have hp : Pres G w G { w with heap := w.heap.setIfInBounds b (.map ents' clock') } :=
    ⟨rfl, rfl, rfl, Nat.le_refl _, by rw [hsz]; exact Nat.le_refl _, fun _ _ => Nat.le_refl _, fun c k _ _ => hcell c k, fun c _ hc => hs2 c (fun e => by subst e; rw [ho] at hc; rcases hc with hc | hc <;> cases hc), fun _ _ h => ⟨h, rfl⟩, fun _ _ h => ⟨h, rfl⟩⟩
  have hne : ∀ c, G.O c ≠ .sh → ({ w with heap := w.heap.setIfInBounds b (.map ents' clock') } : World).heap[c]? = w.heap[c]? := fun c hc => hs2 c fun e => hc (by rw [e]; exact ho)
  refine ⟨⟨⟨fun c hc => h.good.newO c (by rw [hsz] at hc; exact hc), fun c hc => h.good.newR c (by rw [hsz] at hc; exact hc)⟩, ?_, h.size, fun i v hi => ?_, h.dom, h.lps, h.def0⟩, hp⟩
  · intro c o hc
    have hc' : (if c = b then some (SO.map es') else σ.s c) = some o := hc
    by_cases hcb : c = b
    · rw [if_pos hcb] at hc'
      injection hc' with hc'
      subst hcb; subst hc'
      exact ⟨ho, hR, ents', clock', hs1, hent.1, fun j x y hx hy => ⟨hp.vr h.good (hent.2 j x y hx hy).1, hp.vr h.good (hent.2 j x y hx hy).2⟩⟩
    · rw [if_neg hcb] at hc'
      obtain ⟨r1, r2, r3⟩ := h.store c o hc'
      refine ⟨r1, r2, ?_⟩
      cases o with
      | cells cs =>
        obtain ⟨c0, t0, k1, k2, k3⟩ := r3
        exact ⟨c0, t0, (hs2 c hcb).trans k1, k2.mono (fun _ _ hv => hp.vr h.good hv) (fun c' j hc' => ⟨hc', rfl, hne c' (by rw [hc']; simp)⟩), k3⟩
      | map es =>
        obtain ⟨e0, t0, k1, k2, k3⟩ := r3
        exact ⟨e0, t0, (hs2 c hcb).trans k1, k2, fun j x y hx hy => ⟨hp.vr h.good (k3 j x y hx hy).1, hp.vr h.good (k3 j x y hx hy).2⟩⟩
  · exact ValS.frame (fun _ _ hv => hp.vr h.good hv) (fun c hc => ⟨rfl, rfl, hne c (by rcases hc with ⟨j, hc⟩ | hc <;> rw [hc] <;> simp)⟩) (fun c c' j _ hc => ⟨hc, rfl, hne c' (by rw [hc]; simp)⟩) _ _ (fun d _ cs hcs => ⟨cs, hcs, rfl⟩) (h.slots i v hi)
theorem eff_mapUpdate (h : Inv G n D σ a w) {op : Op} {ty : TypeId} {kk : KeyK} {x k v : IX} {d : Option Nat} {K : St → Prop} (hd : dstOK n d = true) (hc : chkOp P op ty (.mapUpdate kk x k v) = true) (hw : iwp P (.mapUpdate kk x k v) d σ K) : Eff P G n D w a op ty d K := by
  cases op <;> first | (simp [chkOp] at hc; done) | skip
  rename_i t y j u
  simp only [chkOp, Bool.and_eq_true] at hc
  obtain ⟨⟨⟨hy, hj⟩, hu⟩, hc⟩ := hc
  split at hc <;> try (cases hc; done)
  rename_i kt et ht
  have hrun := keyRun_of hc
  have hb := BR.of_inv h hy
  have hbk := BR.of_inv h hj
  have hbv := BR.of_inv h hu
  have hw' : mapUpdW kk σ (xg true σ k) (xg true σ v) d K (xg true σ x) := hw
  generalize xg true σ x = xv at hb hw'
  generalize xg true σ k = kv at hbk hw'
  generalize xg true σ v = vv at hbv hw'
  unfold mapUpdW at hw'
  split at hw' <;> try (exact hw'.elim)
  rename_i b
  unfold updO at hw'
  split at hw' <;> try (exact hw'.elim)
  rename_i es hes
  obtain ⟨⟨hi, hkk, hks⟩, hK⟩ := hw'
  have e1 : a.eval y = .map (some b) := VR.inv_mp hb
  have hvv : VR w G.R vv (a.eval u) := by cases vv <;> first | exact hbv | (simp [isV] at hi)
  have hvk := hbk.key hkk
  have hkv := keyOK_kv hkk hvk
  obtain ⟨ho, hR, ents, clock, hh, hsz, hent⟩ := h.store b _ hes
  have hall : ∀ e ∈ ents.toList, KV kk e.key := fun e he => by
    obtain ⟨i, hi⟩ := List.mem_iff_getElem?.1 he
    have hlt : i < es.length := by rw [← hsz]; have := (List.getElem?_eq_some_iff.1 hi).1; simpa using this
    have h1 := hent i _ e (List.getElem?_eq_getElem hlt) (by simpa using hi)
    exact keyOK_kv (List.all_eq_true.1 hks _ (List.getElem_mem hlt)) h1.1
  have hview : keyOK kk (view kv) = true ∧ view kv = kv := by cases kv <;> cases kk <;> simp_all [keyOK, view]
  rw [hview.2] at hK
  obtain ⟨f1, f2⟩ := findK_run hkk hvk es ents.toList (by simpa using hsz) (fun j p y hp hy => hent j p y hp (by simpa using hy)) hks
  have hget := Go.MapKept.run_getObj_map (P := P) hh
  have hck := hrun.check w false _ hkv
  have hput : ∀ (τ : St) (w' : World), Inv G n D τ a w' → Inv G n D (τ.put d (.tup [])) (a.put d undef) w' := by
    intro τ w' hτ
    have := hτ.put (s' := τ.s) (lp' := τ.lp) d (fun i hi => by subst hi; simpa [dstOK] using hd) (.tup []) undef hτ.good (Pres.refl G w') hτ.store (fun _ hx => hx) (fun i t _ ht => ht.elim) (fun i t _ ⟨cs, hcs⟩ => by cases hcs)
      (fun _ _ _ _ => ⟨rfl, rfl, rfl⟩) (fun _ _ _ _ _ _ hcc => ⟨hcc, rfl, rfl⟩) (fun i hdi => ⟨#[], rfl, rfl, fun j x y hx => by simp at hx⟩)
    cases d <;> exact this
  intro pos after gd next Q hn
  rcases hrun.find w _ hkv ents.toList hall with ⟨q1, q2⟩ | ⟨m, e, q1, q2, q3, q4⟩
  · obtain ⟨_, g2⟩ := f1 q2
    rw [g2] at hK
    obtain ⟨h1, h2⟩ := h.remap (clock' := clock + 1) (ents' := ents.push { key := a.eval j, val := a.eval u, born := clock }) (es' := es ++ [(kv, view vv)]) hh ho hR ⟨by simp [hsz], fun i p z hp hz => by
      rw [Array.getElem?_push] at hz
      by_cases hi' : i = es.length
      · subst hi'
        rw [if_pos hsz.symm] at hz
        simp at hp
        injection hz with hz
        subst hp; subst hz
        exact ⟨hvk, hvv.view⟩
      · rw [if_neg (by omega)] at hz
        have hlt : i < es.length := by
          have := (List.getElem?_eq_some_iff.1 hp).1
          simp at this; omega
        rw [List.getElem?_append_left hlt] at hp
        exact hent i p z hp hz⟩
    refine wp_skip' (w' := _) ?_ (hn G _ _ _ (hput _ _ h1) h2 hK)
    simp [execOp, Instr.mapUpdate, run_underlying ht, e1, hget, hck, q1, run_setObj_map _ hh]
  · obtain ⟨p, g1, _, g2⟩ := f2 m e q2 q3 q4
    rw [g2] at hK
    have hmlt : m < ents.size := by have := (List.getElem?_eq_some_iff.1 q2).1; simpa using this
    have hem : ents[m]? = some e := by simpa using q2
    have hst := hrun.stays w _ hkv
    obtain ⟨h1, h2⟩ := h.remap (clock' := clock) (ents' := ents.modify m fun e => { e with key := a.eval j, val := a.eval u }) (es' := es.set m (kv, view vv)) hh ho hR ⟨by simp [hsz], fun i p z hp hz => by
      rw [Array.getElem?_modify] at hz
      by_cases hi' : m = i
      · subst hi'
        rw [if_pos rfl, hem] at hz
        simp at hz
        rw [List.getElem?_set_self (by omega)] at hp
        injection hp with hp
        subst hp; subst hz
        exact ⟨hvk, hvv.view⟩
      · rw [if_neg hi'] at hz
        rw [List.getElem?_set_ne hi'] at hp
        exact hent i p z hp hz⟩
    refine wp_skip' (w' := _) ?_ (hn G _ _ _ (hput _ _ h1) h2 hK)
    simp [execOp, Instr.mapUpdate, run_underlying ht, e1, hget, hck, q1, hem, q3, hst, run_setObj_map _ hh]
theorem eff_cvtRow (h : Inv G n D σ a w) {op : Op} {ty : TypeId} {x : IX} {d : Option Nat} {K : St → Prop} (hd : dstOK n d = true) (hc : chkOp P op ty (.cvtRow x) = true) (hw : iwp P (.cvtRow x) d σ K) : Eff P G n D w a op ty d K := by
  cases op <;> first | (simp [chkOp] at hc; done) | skip
  rename_i s t y
  cases x with
  | c _ => simp [chkOp] at hc
  | t i =>
  simp only [chkOp, Bool.and_eq_true, beq_iff_eq] at hc
  obtain ⟨⟨hy, rfl⟩, hc⟩ := hc
  split at hc <;> try (cases hc; done)
  rename_i e ht
  split at hc <;> try (cases hc; done)
  rename_i he
  have hw' : prK σ d K (rowV (xg true σ (.t i))) := hw
  -- the slot's own row
  have hrow : ∃ m x0 cs cs', cs = .int .u8 x0 :: cs' ∧ xg true σ (.t i) = .sl true 1 (m + 1) cs ∧ K (σ.put d (.sl false 1 (m + 1) cs)) := by
    generalize xg true σ (.t i) = xv at hw'
    unfold rowV at hw'
    split at hw'
    · exact ⟨_, _, _, _, rfl, rfl, hw'⟩
    · exact hw'.elim
  obtain ⟨m, x0, cs, cs', hcs, hx, hK⟩ := hrow
  have hx' : look σ.e i = .sl true 1 (m + 1) cs ∨ look σ.e i = .when true (.sl true 1 (m + 1) cs) := by
    have hx2 : unw true (look σ.e i) = .sl true 1 (m + 1) cs := hx
    generalize look σ.e i = av at hx2
    cases av <;> first | exact .inl hx2 | skip
    rename_i b a'
    have hx2 : (bif (b == true || b) && inner a' then a' else .undef) = .sl true 1 (m + 1) cs := hx2
    cases b with
    | false => simp at hx2
    | true =>
      refine .inr ?_
      cases hin : inner a' with
      | false => rw [hin] at hx2; simp at hx2
      | true => rw [hin] at hx2; simp at hx2; rw [hx2]
  have hin : i < n := h.lt_of (fun e => by rcases hx' with h' | h' <;> rw [h'] at e <;> cases e)
  have hey : a.tmps[i]? = some (a.eval y) := by
    have hyy : y = .tmp i := by
      cases y <;> simp [chkX] at hy
      rw [hy]
    subst hyy
    exact eval_some (by rw [h.size]; exact hin)
  have hsl : VR w G.R (.sl true 1 (m + 1) cs) (a.eval y) ∧ OwnR G w (.slot i 0) (.sl true 1 (m + 1) cs) (a.eval y) := by
    have hs := h.slots i _ hey
    rcases hx' with h' | h' <;> rw [h'] at hs
    · exact hs
    · exact hs.1 rfl
  obtain ⟨hvr, hown⟩ := hsl
  rcases VR.inv_sl hvr with ⟨_, hm0, _⟩ | ⟨b0, off0, cap0, e1, hl, hR, hcap, hat⟩
  · omega
  obtain ⟨b, off, c, et, fz, q1, q2, q3, q4, q5, q6⟩ := hown _ _ _ e1 (.inr (by omega))
  injection q1 with q1; injection q1 with q1 q1' _
  subst q1; subst q1'
  let fz' : Nat × Nat := if fz.1 == fz.2 then (c.size, c.size + 1) else (min fz.1 c.size, max fz.2 (c.size + 1))
  let w' : World := w.freeze ⟨b0, c.size, none⟩ 1
  have hlt : b0 < w.heap.size := (Array.getElem?_eq_some_iff.1 q4).1
  have hb0 : w'.heap[b0]? = some (.cells c et fz') := by
    show (w.freeze ⟨b0, c.size, none⟩ 1).heap[b0]? = _
    unfold World.freeze
    simp only [Nat.succ_ne_self, if_false, Array.getElem?_modify, if_true, q4, Option.map_some]
    rfl
  have hoth : ∀ k, k ≠ b0 → w'.heap[k]? = w.heap[k]? := by
    intro k hk
    show (w.freeze ⟨b0, c.size, none⟩ 1).heap[k]? = _
    unfold World.freeze
    simp only [Nat.succ_ne_self, if_false, Array.getElem?_modify]
    rw [if_neg (Ne.symm hk)]
  have hsz : w'.heap.size = w.heap.size := by
    show (w.freeze ⟨b0, c.size, none⟩ 1).heap.size = _
    unfold World.freeze
    simp
  have hcell : ∀ b k, w'.cell? ⟨b, k, none⟩ = w.cell? ⟨b, k, none⟩ := by
    intro k j
    by_cases hk : k = b0
    · subst hk
      unfold World.cell?
      simp only [hb0, q4]
    · exact World.cell?_of_block (hoth k hk)
  have hfz : ∀ k, k < c.size → ¬ (fz'.1 ≤ k ∧ k < fz'.2) := by
    intro k hk
    show ¬ ((if fz.1 == fz.2 then (c.size, c.size + 1) else (min fz.1 c.size, max fz.2 (c.size + 1)) : Nat × Nat).1 ≤ k ∧ k < (if fz.1 == fz.2 then (c.size, c.size + 1) else (min fz.1 c.size, max fz.2 (c.size + 1)) : Nat × Nat).2)
    by_cases hf : fz.1 = fz.2
    · simp only [hf, beq_self_eq_true, if_true]; omega
    · have : (fz.1 == fz.2) = false := by simpa using hf
      rw [this]
      simp only [Bool.false_eq_true, if_false]
      intro hh
      have q7 := q6.2
      by_cases hc2 : fz.1 < c.size
      · exact q6.1 fz.1 hc2 ⟨Nat.le_refl _, by omega⟩
      · omega
  have hfz2 : fz'.1 ≤ fz'.2 := by
    show (if fz.1 == fz.2 then (c.size, c.size + 1) else (min fz.1 c.size, max fz.2 (c.size + 1)) : Nat × Nat).1 ≤ (if fz.1 == fz.2 then (c.size, c.size + 1) else (min fz.1 c.size, max fz.2 (c.size + 1)) : Nat × Nat).2
    split
    · show c.size ≤ c.size + 1; omega
    · show min fz.1 c.size ≤ max fz.2 (c.size + 1); omega
  have hp : Pres G w G w' := ⟨rfl, rfl, rfl, Nat.le_refl _, by rw [hsz]; exact Nat.le_refl _, fun _ _ => Nat.le_refl _, fun b k _ _ => hcell b k, fun b _ hb => hoth b (fun e => by subst e; rw [q2] at hb; rcases hb with hb | hb <;> cases hb), fun _ _ h => ⟨h, rfl⟩, fun _ _ h => ⟨h, rfl⟩⟩
  have hne : ∀ k, G.O k ≠ .slot i 0 → w'.heap[k]? = w.heap[k]? := fun k hk => hoth k fun e => hk (by rw [e]; exact q2)
  have hI : Inv G n D σ a w' := by
    refine ⟨⟨fun c hc => h.good.newO c (by rw [hsz] at hc; exact hc), fun c hc => h.good.newR c (by rw [hsz] at hc; exact hc)⟩, ?_, h.size, fun k v hk => ?_, h.dom, h.lps, h.def0⟩
    · exact h.store.mono h.good hp (fun b hb => ⟨hb, rfl, hne b (by rw [hb]; simp)⟩) (fun b c j _ hc => ⟨hc, rfl, hne c (by rw [hc]; simp)⟩)
    · by_cases hki : k = i
      · subst hki
        have hv : v = a.eval y := by rw [hey] at hk; exact (Option.some.inj hk).symm
        subst hv
        have hO : OwnR G w' (.slot k 0) (.sl true 1 (m + 1) cs) (a.eval y) := by
          intro base m' cap' hv hc
          rw [e1] at hv
          injection hv with v1 v2 v3
          exact ⟨b0, off0, c, et, fz', v1.symm, q2, q3, hb0, by rw [q5, v3], hfz, hfz2, q6.2.2.1, .inr ⟨Nat.succ_pos _, x0, by
            obtain ⟨u, u1, u2, _⟩ := hat
            have k1 := u1 0 (.int .u8 x0) (by rw [hcs]; rfl)
            have k2 := VR.inv_int (u2 0 (.int .u8 x0) (by rw [hcs]; rfl))
            rw [q6.2.2.1, cell_of_row w q4, k2] at k1
            exact k1⟩, q6.2.2.2.2⟩
        have hV : ValS G w' σ.e a.tmps k (.sl true 1 (m + 1) cs) (a.eval y) := ⟨hp.vr h.good hvr, hO⟩
        rcases hx' with h' | h' <;> rw [h']
        · exact hV
        · exact ⟨fun _ => hV, fun h => by cases h⟩
      · exact ValS.frame (fun _ _ hv => hp.vr h.good hv) (fun c hc => ⟨rfl, rfl, hne c (by rcases hc with ⟨j, hc⟩ | hc <;> rw [hc] <;> simp [hki])⟩) (fun c c' j _ hc => ⟨hc, rfl, hne c' (by rw [hc]; simp)⟩) _ _ (fun d _ cs hcs => ⟨cs, hcs, rfl⟩) (h.slots k v hk)
  have hfin : Inv G n D (σ.put d (.sl false 1 (m + 1) cs)) (a.put d (a.eval y)) w' := hI.putPlain hd (av := .sl true 1 (m + 1) cs) rfl (hp.vr h.good hvr)
  intro pos after gd next Q hn
  refine wp_value (v := a.eval y) (w' := w') ?_ (hn G _ _ _ hfin hp hK)
  have hshape : w.shape? b0 = some (et, c.size) := by
    unfold World.shape?
    rw [q4]
  have hconv : (convert s s (.slice (some ⟨b0, off0, none⟩) (m + 1) cap0)).run P w = .ok (.slice (some ⟨b0, off0, none⟩) (m + 1) cap0) w' := by
    simp [convert, run_underlying ht, run_underlying he, markStringish, hshape]
    rfl
  simp [execOp, e1, hconv]
theorem eff_movT (h : Inv G n D σ a w) {op : Op} {ty : TypeId} {x : IX} {d : Option Nat} {K : St → Prop} (hd : dstOK n d = true) (hc : chkOp P op ty (.movT x) = true) (hw : iwp P (.movT x) d σ K) : Eff P G n D w a op ty d K := by
  have hw' : prK σ d K (tupV (xg true σ x)) := hw
  have key : ∀ y, chkX y x = true → ∃ vs, K (σ.put d (.tup (views vs))) ∧ Inv G n D (σ.put d (.tup (views vs))) (a.put d (a.eval y)) w := by
    intro y hy
    have hb := BR.of_inv h hy
    generalize xg true σ x = xv at hb hw'
    unfold tupV at hw'
    split at hw' <;> try (exact hw'.elim)
    rename_i vs
    refine ⟨vs, hw', ?_⟩
    obtain ⟨ys, e, hl, hr⟩ := VR.inv_tup (show VR w G.R (.tup vs) (a.eval y) from hb)
    have := h.put (s' := σ.s) (lp' := σ.lp) d (fun i hi => by subst hi; simpa [dstOK] using hd) (.tup (views vs)) (a.eval y) h.good (Pres.refl G w) h.store (fun _ hx => hx) (fun i t _ ht => ht.elim) (fun i t _ ⟨cs, hcs⟩ => by cases hcs)
      (fun _ _ _ _ => ⟨rfl, rfl, rfl⟩) (fun _ _ _ _ _ _ hcc => ⟨hcc, rfl, rfl⟩) (fun i hdi => ⟨ys, e, by simpa [views] using hl, fun j x y hx hy => by
        rw [views_get] at hx
        cases hj : vs[j]? with
        | none => rw [hj] at hx; cases hx
        | some c =>
          rw [hj] at hx
          simp at hx
          subst hx
          exact ⟨(hr j c y hj hy).view, OwnR.view ..⟩⟩)
    cases d <;> exact this
  intro pos after g next Q hn
  cases op <;> first | (simp [chkOp] at hc; done) | skip
  · rename_i y
    obtain ⟨vs, h1, h2⟩ := key y hc
    exact wp_value rfl (hn G _ _ _ h2 (Pres.refl G w) h1)
  · rename_i y
    obtain ⟨vs, h1, h2⟩ := key y hc
    exact wp_value rfl (hn G _ _ _ h2 (Pres.refl G w) h1)
end
end Go.AB
end

section
namespace Go.AB
open Go
section
variable {P : Program} {G G' : Gh} {n : Nat} {D : List Deferred} {σ : St} {a : Act} {w w' : World}
theorem StoreR.at (h : StoreR G w σ.s) {b off m : Nat} {cs : List AV} (hs : σ.s b = some (.cells cs)) (hfit : off + m ≤ cs.length) : At w G.R b off (AB.views (AB.sub cs off m)) := by
 obtain ⟨_, _, c, t, h4, h5, h6⟩ := h b _ hs
 have hat := (At.of_cellsT h4 h5 h6).sub off m
 rwa [Nat.zero_add, views_sub] at hat
structure SrcN (P : Program) (w : World) (R : Nat → Nat) (sz m : Nat) (ds : List AV) (v : Value) (news : List Value) : Prop where
 len : news.length = m * sz
 lenD : ds.length = m * sz
 lenOf : ∀ w', (Builtin.lenOf v).run P w' = .ok m w'
 first : ∀ k, k ≤ m → ∀ w', w'.heap = w.heap → (Builtin.firstCells sz k v).run P w' = .ok (news.take (k * sz)).toArray w'
 one : ∀ u ∈ news, u.oneCell' = true
 vals : ∀ (j : Nat) (c : AV) (u : Value), ds[j]? = some c → news[j]? = some u → VR w R c u
 fl : Fl ds
 vw : views ds = ds
theorem views_views (ds : List AV) : views (views ds) = views ds := by
 unfold views
 rw [List.map_map]
 apply List.map_congr_left
 intro a _
 cases a <;> rfl
theorem SrcN.src {R : Nat → Nat} {sz m : Nat} {ds : List AV} {v : Value} {news : List Value} (h : SrcN P w R sz m ds v news) : Src P w R sz m ds v news :=
 ⟨h.len, h.lenD, h.lenOf, fun w' hw' => by rw [h.first m (Nat.le_refl m) w' hw', List.take_of_length_le (by rw [h.len]; exact Nat.le_refl _)], h.one, h.vals, h.fl⟩
theorem SrcN.of_at {R : Nat → Nat} {sz m b off cap : Nat} {cs : List AV} (hl : cs.length = m * sz) (hat : At w R b off cs) : ∃ news, SrcN P w R sz m (views cs) (.slice (some ⟨b, off, none⟩) m cap) news := by
  have hatv := hat.views
  obtain ⟨us, h1, h2, h3⟩ := hatv.vals
  have hfl : Fl (views cs) := by obtain ⟨_, _, _, hf⟩ := hatv; exact hf
  have hlen : (views cs).length = m * sz := by simp [views, hl]
  refine ⟨us, by rw [h1, hlen], hlen, fun _ => rfl, fun k hk w' hw' => ?_, fun u hu => ?_, h3, hfl, views_views cs⟩
  · have hkl : k * sz ≤ us.length := by rw [h1, hlen]; exact Nat.mul_le_mul_right _ hk
    exact run_firstCells_some w' sz k ⟨b, off, none⟩ m cap (us.take (k * sz)) (by simp; omega) fun j v hj => by
      rw [cell_heap hw']
      rw [List.getElem?_take] at hj
      split at hj
      · exact h2 j v hj
      · cases hj
  · obtain ⟨j, hj⟩ := List.mem_iff_getElem?.1 hu
    have hlt : j < (views cs).length := by rw [← h1]; exact (List.getElem?_eq_some_iff.1 hj).1
    have hx := List.getElem?_eq_getElem hlt
    exact oneCell_of_flat (hfl _ (List.getElem_mem hlt)) (h3 j _ u hx hj)
theorem SrcN.none {R : Nat → Nat} {sz : Nat} : SrcN P w R sz 0 [] (.slice none 0 0) [] :=
 ⟨by simp, by simp, fun _ => rfl, fun k hk w' _ => by
  have : k = 0 := by omega
  subst this; simp [Builtin.firstCells], fun u hu => by simp at hu, fun j c u hc => by simp at hc, Fl.nil, rfl⟩
theorem SrcN.empty {R : Nat → Nat} {sz cap : Nat} {base : Option Addr} : SrcN P w R sz 0 [] (.slice base 0 cap) [] :=
 ⟨by simp, by simp, fun _ => rfl, fun k hk w' _ => by
  have : k = 0 := by omega
  subst this
  cases base with
  | none => simp [Builtin.firstCells]
  | some x =>
   obtain ⟨b, off, sp⟩ := x
   simp [Builtin.firstCells, loadCells, loadCellsFrom], fun u hu => by simp at hu, fun j c u hc => by simp at hc, Fl.nil, rfl⟩
theorem SrcN.str {R : Nat → Nat} {l : List UInt8} : SrcN P w R 1 l.length (l.map fun c => .int .u8 c.toNat) (.string ⟨l.toArray⟩) (l.map fun c => .int .u8 c.toNat) where
 len := by simp
 lenD := by simp
 lenOf := fun w' => by simp [Builtin.lenOf, ByteArray.size]
 first := fun k hk w' _ => by
  have : ((ByteArray.mk l.toArray).extract 0 k).data = (l.take k).toArray := by
   rw [ByteArray.data_extract]
   apply Array.ext'
   simp
  simp [Builtin.firstCells, this, List.map_take]
 one := (Src.of_str (P := P) (w := w) (R := R)).one
 vals := (Src.of_str (P := P) (w := w) (R := R)).vals
 fl := bytes_fl l
 vw := by simp [views, view]
theorem cellsAt_eq {m sz off : Nat} {o : Option SO} {k : Nat} {ds : List AV} (h : cellsAt m sz off o = some (k, ds)) : ∃ cs, o = some (.cells cs) ∧ off + m * sz ≤ cs.length ∧ k = m ∧ ds = views (AB.sub cs off (m * sz)) := by
  unfold cellsAt at h
  split at h
  · rename_i cs
    by_cases hl : off + m * sz ≤ cs.length
    · rw [decide_eq_true hl] at h; injection h with h; injection h with h1 h2; exact ⟨cs, rfl, hl, h1.symm, h2.symm⟩
    · rw [decide_eq_false hl] at h; cases h
  · cases h
theorem srcV_sound (h : Inv G n D σ a w) {sz m : Nat} {x : IX} {o : Operand} {ds : List AV} (hx : chkX o x = true) (hs : srcV σ.s sz (σ.x x) = some (m, ds)) : ∃ news, SrcN P w G.R sz m ds (a.eval o) news := by
  have hb := XR.of_inv h hx
  generalize σ.x x = av at hb hs
  unfold srcV at hs
  split at hs
  · rename_i ow s' k cs
    by_cases he : s' = sz
    · subst he
      rw [beq_self_eq_true] at hs
      injection hs with hs; injection hs with h1 h2; subst h1; subst h2
      rcases VR.inv_sl hb with ⟨e0, rfl, rfl⟩ | ⟨b, off, cap, e, hl, _, _, hat⟩
      · obtain ⟨_, _, e⟩ := e0.ex
        rw [e]; exact ⟨[], SrcN.empty⟩
      · rw [e]; exact SrcN.of_at hl hat
    · rw [show (s' == sz) = false by simpa using he] at hs
      by_cases hk : k = 0
      · subst hk
        injection hs with hs; injection hs with h1 h2; subst h1; subst h2
        rcases VR.inv_sl hb with ⟨(e | ⟨_, _, _, e⟩), _, _⟩ | ⟨b, off, cap, e, _⟩ <;> rw [e] <;> exact ⟨[], SrcN.empty⟩
      · rw [show (k == 0) = false by simpa using hk] at hs; cases hs
  · rename_i l
    by_cases he : sz = 1
    · subst he
      rw [beq_self_eq_true] at hs
      injection hs with hs; injection hs with h1 h2; subst h1; subst h2
      rw [VR.inv_str hb]; exact ⟨_, SrcN.str⟩
    · rw [show (sz == 1) = false by simpa using he] at hs; cases hs
  · rename_i b off k cap
    by_cases hk : k = 0
    · subst hk
      injection hs with hs; injection hs with h1 h2; subst h1; subst h2
      rcases VR.inv_arr' hb with e | ⟨_, _, e⟩ <;> rw [e] <;> exact ⟨[], SrcN.empty⟩
    · rw [show (k == 0) = false by simpa using hk] at hs
      obtain ⟨cs, e1, e2, rfl, rfl⟩ := cellsAt_eq hs
      rcases VR.inv_arr' hb with e | ⟨h0, _, _⟩
      · rw [e]
        have hsn := SrcN.of_at (P := P) (cap := cap) (show (AB.views (AB.sub cs off (m * sz))).length = m * sz by simp [views, len_sub e2]) (h.store.at e1 e2)
        rwa [views_views] at hsn
      · exact absurd h0 hk
  · cases hs
theorem Inv.rowWritten (h : Inv G n D σ a w) {b off : Nat} {cs ds : List AV} {news : List Value} {c : Array Value} {t : TypeId} (hs : σ.s b = some (.cells cs)) (hb : w.heap[b]? = some (.cells c t (0, 0)))
    (hlen : news.length = ds.length) (hfit : off + ds.length ≤ cs.length) (hfl : Fl ds) (hvw : views ds = ds) (hvals : ∀ (j : Nat) (x : AV) (y : Value), ds[j]? = some x → news[j]? = some y → VR w G.R x y) :
    Inv G n D { σ with s := σ.s.set b (.cells (setAt cs off ds)) } a (w.setRow b (laid c off news)) ∧ Pres G w G (w.setRow b (laid c off news)) := by
  obtain ⟨q2, q3, c', t', q4, q5, q6⟩ := h.store b _ hs
  rw [hb] at q4; injection q4 with q4; injection q4 with q4 q4' _
  subst q4; subst q4'
  have hne : ∀ j, G.O b ≠ .cell b j := fun j => by rw [q2]; simp
  have hpres : Pres G w G (w.setRow b (laid c off news)) := Pres.write hb (by rw [q2]; simp) (fun k hk => by rw [q3] at hk; omega) (Nat.le_refl _) (fun _ _ => ⟨rfl, rfl⟩)
  have hcells := CellsR.lay hb hpres h.good q5 hlen hfit hne (fun j x y hx hy => ⟨hvals j x y hx hy, by
    rw [← hvw, views_get] at hx
    cases hz : ds[j]? with
    | none => rw [hz] at hx; cases hx
    | some x' => rw [hz] at hx; simp at hx; rw [← hx]; exact OwnR.view ..⟩)
  have hst : StoreR G (w.setRow b (laid c off news)) (σ.s.set b (.cells (setAt cs off ds))) := by
    intro b' o hb'
    unfold Store.set at hb'
    by_cases hbg : b' = b
    · rw [if_pos hbg] at hb'; injection hb' with hb'; subst hb'; subst hbg
      exact ⟨q2, q3, _, t, setRow_heap w b' c _ t _ hb, hcells, FlT.setAt q6 hfl off⟩
    · rw [if_neg hbg] at hb'
      obtain ⟨r1, r2, r3⟩ := h.store b' o hb'
      refine ⟨r1, r2, ?_⟩
      have hbk := setRow_other w b b' (laid c off news) hbg
      cases o with
      | cells cs =>
        obtain ⟨c0, t0, r4, r5, r6⟩ := r3
        exact ⟨c0, t0, hbk.trans r4, r5.mono (fun _ _ hv => hpres.vr h.good hv) (fun b'' j hb'' => ⟨hb'', rfl, setRow_other w b b'' _ (fun e => by subst e; rw [q2] at hb''; cases hb'')⟩), r6⟩
      | map es =>
        obtain ⟨ents, clock, r4, r5, r6⟩ := r3
        exact ⟨ents, clock, hbk.trans r4, r5, fun j x y hx hy => ⟨hpres.vr h.good (r6 j x y hx hy).1, hpres.vr h.good (r6 j x y hx hy).2⟩⟩
  obtain ⟨h2, _⟩ := h.written (σ' := { σ with s := σ.s.set b (.cells (setAt cs off ds)) }) hb (.inr q2) q3 rfl hst (fun k => .inl ⟨rfl, by rw [q2]; simp⟩)
  exact ⟨h2, hpres⟩
theorem Inv.putV (h : Inv G n D σ a w) {d : Option Nat} (hd : dstOK n d = true) {av : AV} {v : Value} (hi : isV av = true) (hv : VR w G.R av v) (hview : view av = av) : Inv G n D (σ.put d av) (a.put d v) w := by
 have := h.put (s' := σ.s) (lp' := σ.lp) d (fun i hi => by subst hi; simpa [dstOK] using hd) av v h.good (Pres.refl G w) h.store (fun _ hx => hx) (fun i t _ ht => (not_holdsLp hi t ht).elim) (fun i t _ ⟨cs, hcs⟩ => (not_loc hi cs hcs).elim)
  (fun _ _ _ _ => ⟨rfl, rfl, rfl⟩) (fun _ _ _ _ _ _ hcc => ⟨hcc, rfl, rfl⟩) (fun i hdi => by
   rw [ValS.of_isV hi]
   refine ⟨hv, ?_⟩
   rw [← hview]; exact OwnR.view ..)
 cases d <;> exact this
theorem Inv.putT (h : Inv G n D σ a w) {d : Option Nat} (hd : dstOK n d = true) : Inv G n D (σ.put d (.tup [])) (a.put d (.tuple #[])) w := by
 have := h.put (s' := σ.s) (lp' := σ.lp) d (fun i hi => by subst hi; simpa [dstOK] using hd) (.tup []) (.tuple #[]) h.good (Pres.refl G w) h.store (fun _ hx => hx) (fun i t _ ht => ht.elim) (fun i t _ ⟨cs, hcs⟩ => by cases hcs)
   (fun _ _ _ _ => ⟨rfl, rfl, rfl⟩) (fun _ _ _ _ _ _ hcc => ⟨hcc, rfl, rfl⟩) (fun i hdi => ⟨#[], rfl, rfl, fun j x y hx => by simp at hx⟩)
 cases d <;> exact this
theorem eff_buildSlA (h : Inv G n D σ a w) {op : Op} {ty : TypeId} {sz m : Nat} {z : List AV} {ps : List (Nat × Nat × IX)} {d : Option Nat} {K : St → Prop} (hd : dstOK n d = true) (hc : chkOp P op ty (.buildSlA sz m z ps) = true) (hw : iwp P (.buildSlA sz m z ps) d σ K) : Eff P G n D w a op ty d K := by
  cases op <;> first | (simp [chkOp] at hc; done) | skip
  rename_i t m' qs
  simp only [chkOp, Bool.and_eq_true, beq_iff_eq] at hc
  obtain ⟨rfl, hc⟩ := hc
  split at hc <;> try (cases hc; done)
  rename_i e ht
  have ht := elemOfSl_eq ht
  simp only [Bool.and_eq_true] at hc
  obtain ⟨⟨⟨⟨hs, hpos⟩, hp⟩, hlim⟩, hz⟩ := hc
  obtain ⟨i, hi, hisz⟩ := sizeIs_eq hs
  rw [hi] at hz
  simp only at hz
  split at hz <;> try (cases hz; done)
  rename_i zv hzv
  simp only [Bool.and_eq_true, beq_iff_eq] at hz
  obtain ⟨hzr, hzs⟩ := hz
  have hpos := of_decide_eq_true hpos
  have hlim := of_decide_eq_true hlim
  have hw' : buildSlAW sz m σ d K (fill (xg true σ) z ps) := hw
  cases hfl : fill (xg true σ) z ps with
  | none => rw [hfl] at hw'; exact hw'.elim
  | some ds =>
    rw [hfl] at hw'
    obtain ⟨hlen, hk⟩ := hw'
    obtain ⟨hl, hpa⟩ := partsA_all _ _ hp
    obtain ⟨hz1, hz2⟩ := cRs_get hzr
    have hrow : Row w G.R z ((Array.range (m * sz)).map (zv.cells[· % zv.cells.size]!)) := by
      rw [← hzs, zero_row]
      exact ⟨by simpa using hz1, fun j c u hc hu => cR_vr (hz2 j c u hc (by simpa using hu)) w G.R, cRs_fl hzr⟩
    have hf : ∀ (o : Operand) (x : IX), chkX o x = true → isV (xg true σ x) = true → VR w G.R (xg true σ x) (a.eval o) := fun o x hx hi => by
      have := BR.of_inv h hx
      generalize xg true σ x = av at hi this
      cases av <;> first | exact this | (simp [isV] at hi)
    obtain ⟨us, h1, h2⟩ := fill_sound h hf (fun i => some (i * sz, sz)) qs.toList ps z ds _ ⟨hl, fun j q p hq hp' => by
        obtain ⟨⟨e1, e2⟩, hx⟩ := hpa j q p hq hp'
        exact ⟨by rw [e1, e2], hx⟩⟩ hrow hfl
    obtain ⟨G1, h3, h4⟩ := h.newS (t := e) (c := us) (cs := views ds) hd (.inr ⟨m, m, rfl, rfl⟩) (fun G' w' o hp => cellsR_of_views (h2.mono fun _ _ hv => hp.vr h.good hv)) h2.2.2.views
    intro pos after gd next Q hn
    refine wp_value ?_ (hn G1 _ _ _ h3 h4 (hk w.heap.size (h.store.get_none h.good)))
    by_cases hm0 : m * sz = 0
    · have hm : m = 0 := by
        rcases Nat.mul_eq_zero.1 hm0 with h | h
        · exact h
        · omega
      subst hm
      simp only [Nat.zero_mul] at h1
      have : (Array.range 0).map (zv.cells[· % zv.cells.size]!) = #[] := by simp
      rw [this] at h1
      have hr0 : Array.map (fun _ : Nat => (default : Value)) (Array.range 0) = #[] := by apply Array.ext'; simp
      simp [execOp, Instr.buildSlice, run_underlying ht, run_sizeOf hs, hr0, h1, newRow]
    · have h24 : ¬ (16777216 < m * sz) := by omega
      simp [execOp, Instr.buildSlice, run_underlying ht, run_sizeOf hs, h24, hm0, zeroValue, typeInfo, hi, hzv, h1, newRow]
end
end Go.AB
end

section
namespace Go.AB
open Go
section
variable {P : Program} {G G' : Gh} {n : Nat} {D : List Deferred} {σ : St} {a : Act} {w w' : World}
theorem setAt_nil (cs : List AV) (k : Nat) : setAt cs k [] = cs := by simp [setAt]
theorem store_set_self {s : Store} {b : Nat} {o : SO} (h : s b = some o) : s.set b o = s := by
  funext i
  unfold Store.set
  split
  · rename_i e; subst e; exact h.symm
  · rfl
theorem roomyV_eq {sz b off cap : Nat} {o : Option SO} (h : roomyV sz b off cap o) : ∃ cs, o = some (.cells cs) ∧ off + cap * sz ≤ cs.length := by
  unfold roomyV at h
  split at h
  · exact ⟨_, rfl, h⟩
  · exact h.elim
theorem zeros_facts {e : TypeId} {z : List AV} (hz : zeroIs P e z = true) : ∃ v : Value, (∀ w, (zeroValue e).run P w = .ok v w) ∧ (∃ i, P.info? e = some i ∧ i.zero = some v ∧ i.size = z.length) ∧ ∀ (q : Nat), (Builtin.zeroCells v.cells q).toList.length = q * z.length ∧ (List.replicate q z).flatten.length = q * z.length ∧
    (∀ (j : Nat) (x : AV) (y : Value), (List.replicate q z).flatten[j]? = some x → (Builtin.zeroCells v.cells q).toList[j]? = some y → cR y x = true) ∧ Fl (List.replicate q z).flatten ∧ (∀ y ∈ (Builtin.zeroCells v.cells q).toList, y.oneCell' = true) := by
  obtain ⟨i, v, h1, h2, h3, h4, h5⟩ := zeroIs_eq hz
  refine ⟨v, fun w => by simp [zeroValue, typeInfo, h1, h2], ⟨i, h1, h2, h3⟩, fun q => ?_⟩
  have e0 : Builtin.zeroCells v.cells q = ((List.replicate q v.cells.toList).flatten).toArray := zero_row v.cells q
  rw [e0]
  have h4 := h4 default fun _ => 0
  have hlz : v.cells.toList.length = z.length := by simpa using h4.1
  have hone : ∀ y ∈ v.cells.toList, y.oneCell' = true := by
    intro y hy
    obtain ⟨j, hj⟩ := List.mem_iff_getElem?.1 hy
    have hlt : j < z.length := by rw [← hlz]; exact (List.getElem?_eq_some_iff.1 hj).1
    exact oneCell_of_flat (h4.2.2 _ (List.getElem_mem hlt)) (h4.2.1 j _ y (List.getElem?_eq_getElem hlt) (by simpa using hj))
  have hlen : ∀ (α : Type) (l : List α), (List.replicate q l).flatten.length = q * l.length := fun α l => by simp
  refine ⟨by show (List.replicate q v.cells.toList).flatten.length = _; rw [hlen, hlz], hlen _ z, ?_, ?_, ?_⟩
  · show ∀ (j : Nat) (x : AV) (y : Value), (List.replicate q z).flatten[j]? = some x → (List.replicate q v.cells.toList).flatten[j]? = some y → cR y x = true
    clear e0 hlen
    induction q with
    | zero => intro j x y hx; simp at hx
    | succ q ih =>
      intro j x y hx hy
      simp only [List.replicate_succ, List.flatten_cons] at hx hy
      by_cases hj : j < z.length
      · rw [List.getElem?_append_left hj] at hx
        rw [List.getElem?_append_left (by omega)] at hy
        exact h5 j x y hx (by simpa using hy)
      · rw [List.getElem?_append_right (by omega)] at hx
        rw [List.getElem?_append_right (by omega), hlz] at hy
        exact ih _ x y hx hy
  · intro x hx
    simp only [List.mem_flatten, List.mem_replicate] at hx
    obtain ⟨l, ⟨_, rfl⟩, hm⟩ := hx
    exact h4.2.2 x hm
  · intro y hy
    simp only [List.mem_flatten, List.mem_replicate] at hy
    obtain ⟨l, ⟨_, rfl⟩, hm⟩ := hy
    exact hone y hm
theorem eff_appendA (h : Inv G n D σ a w) {op : Op} {ty : TypeId} {sz by' : Nat} {z : List AV} {x y : IX} {d : Option Nat} {K : St → Prop} (hd : dstOK n d = true) (hc : chkOp P op ty (.appendA sz by' z x y) = true) (hw : iwp P (.appendA sz by' z x y) d σ K) : Eff P G n D w a op ty d K := by
  cases op <;> first | (simp [chkOp] at hc; done) | skip
  rename_i c
  simp only [chkOp] at hc
  split at hc <;> try (cases hc; done)
  rename_i u v t t' hb
  have hce := asB_eq hb
  subst hce
  simp only [Bool.and_eq_true] at hc
  obtain ⟨⟨hu, hv⟩, hc⟩ := hc
  split at hc <;> try (cases hc; done)
  rename_i e ht
  have ht := elemOfSl_eq ht
  simp only [Bool.and_eq_true] at hc
  obtain ⟨⟨⟨⟨⟨⟨hs, hby⟩, hpos⟩, hbpos⟩, hzl⟩, hzi⟩, ht'⟩ := hc
  obtain ⟨i, hi, hisz⟩ := sizeIs_eq hs
  obtain ⟨zv, _, ⟨i1, hi1, hz, hz1⟩, hzz0⟩ := zeros_facts hzi
  rw [hi] at hi1; injection hi1 with hi1; subst hi1
  have hpos := of_decide_eq_true hpos
  have hbpos := of_decide_eq_true hbpos
  have hby : i.bytes = by' := by
    unfold bytesIs at hby
    rw [hi] at hby
    simpa using hby
  have ht2 : (∃ e', P.underlying t' = some (.slice e')) ∨ P.underlying t' = some .string := by
    rcases Bool.or_eq_true .. ▸ ht' with h | h
    · cases he : elemOfSl P t' with
      | none => rw [he] at h; cases h
      | some e' => exact .inl ⟨e', elemOfSl_eq he⟩
    · exact .inr (strT_eq h)
  have hw' : appendAW sz by' z σ d K (σ.x x) (srcV σ.s sz (σ.x y)) := hw
  have hbx := XR.of_inv h hu
  generalize σ.x x = xv at hw' hbx
  cases hsv : srcV σ.s sz (σ.x y) with
  | none => rw [hsv] at hw'; unfold appendAW at hw'; split at hw' <;> first | (rename_i hh; cases hh; done) | exact hw'.elim
  | some md =>
  obtain ⟨m, ds⟩ := md
  rw [hsv] at hw'
  obtain ⟨news, hsrcN⟩ := srcV_sound (P := P) h hv hsv
  have hsrc := hsrcN.src
  unfold appendAW at hw'
  split at hw' <;> try (exact hw'.elim)
  rename_i b off k cap _ _ he0
  injection he0 with he0; injection he0 with e1 e2; subst e1; subst e2
  cases hol : oldsV σ.s sz b off k with
  | none => rw [hol] at hw'; exact hw'.elim
  | some olds =>
  rw [hol] at hw'
  obtain ⟨hzl2, hstay, hgrow⟩ := hw'
  -- the cells that were there
  have hold : k = 0 ∧ olds = [] ∨ ∃ cs, σ.s b = some (.cells cs) ∧ off + k * sz ≤ cs.length ∧ olds = views (AB.sub cs off (k * sz)) := by
    unfold oldsV at hol
    by_cases hk : k = 0
    · subst hk
      injection hol with hol; exact .inl ⟨rfl, hol.symm⟩
    · rw [show (k == 0) = false by simpa using hk] at hol
      cases hca : cellsAt k sz off (σ.s b) with
      | none => rw [hca] at hol; cases hol
      | some q =>
        rw [hca] at hol; injection hol with hol
        obtain ⟨q1, q2⟩ := q
        obtain ⟨cs, e1, e2, _, e4⟩ := cellsAt_eq hca
        exact .inr ⟨cs, e1, e2, by rw [← hol]; exact e4⟩
  by_cases hfit : k + m ≤ cap
  · rcases hstay hfit with ⟨rfl, hk⟩ | ⟨hroom, hk⟩
    · have hnews : news = [] := List.eq_nil_of_length_eq_zero (by simpa using hsrc.len)
      subst hnews
      intro pos after gd next Q hn
      refine wp_value (w' := w) (v := a.eval u) ?_ (hn G _ _ _ (h.putV hd rfl hbx rfl) (Pres.refl G w) hk)
      rcases VR.inv_arr' hbx with e1 | ⟨rfl, rfl, e1⟩
      · have hrun := run_app_stay (ty := ty) (w := w) ht ht2 hi hisz hsrc (b := b) (off := off) (k := k) (cap := cap) hfit (w' := w) rfl
        simp only [Nat.add_zero] at hrun
        simp [execOp, resolve, invoke, builtin, e1, hrun]
      · have hrun := run_app_nil0 (ty := ty) ht ht2 hi hisz hsrc
        simp [execOp, resolve, invoke, builtin, e1, hrun]
    · obtain ⟨cs, hsb, hfit2⟩ := roomyV_eq hroom
      rw [hsb] at hk
      have hk' : K ({ σ with s := σ.s.set b (.cells (setAt cs (off + k * sz) ds)) }.put d (.arr b off (k + m) cap)) := hk
      obtain ⟨_, _, c, et, hcb, hcr, hcf⟩ := h.store b _ hsb
      have hmul : off + k * sz + m * sz ≤ cs.length := by
        rw [Nat.add_assoc, ← Nat.add_mul]
        exact Nat.le_trans (Nat.add_le_add_left (Nat.mul_le_mul_right _ hfit) _) hfit2
      by_cases hm : m = 0
      · subst hm
        have hnews : news = [] := List.eq_nil_of_length_eq_zero (by simpa using hsrc.len)
        have hds : ds = [] := List.eq_nil_of_length_eq_zero (by simpa using hsrc.lenD)
        subst hnews; subst hds
        rw [setAt_nil, store_set_self hsb, Nat.add_zero] at hk'
        intro pos after gd next Q hn
        refine wp_value (w' := w) (v := a.eval u) ?_ (hn G _ _ _ (h.putV hd rfl hbx rfl) (Pres.refl G w) hk')
        rcases VR.inv_arr' hbx with e1 | ⟨rfl, rfl, e1⟩
        · have hrun := run_app_stay (ty := ty) (w := w) ht ht2 hi hisz hsrc (b := b) (off := off) (k := k) (cap := cap) hfit (w' := w) rfl
          simp only [Nat.add_zero] at hrun
          simp [execOp, resolve, invoke, builtin, e1, hrun]
        · have hrun := run_app_nil0 (ty := ty) ht ht2 hi hisz hsrc
          simp [execOp, resolve, invoke, builtin, e1, hrun]
      · have e1 := VR.inv_arr hbx (by omega)
        obtain ⟨h2, hp2⟩ := h.rowWritten (off := off + k * sz) (ds := ds) (news := news) hsb hcb (by rw [hsrc.len, hsrc.lenD]) (by rw [hsrc.lenD]; exact hmul) hsrc.fl hsrcN.vw hsrc.vals
        have hfit3 : off + k * sz + news.length ≤ c.size := by rw [hsrc.len, hcr.1]; exact hmul
        have hst := run_storeCells_free (P := P) b (off + k * sz) et (0, 0) news 0 c w hcb (fun j _ hj => by simp at hj) (by simpa using hfit3) hsrc.one
        have hrun := run_app_stay (ty := ty) (w := w) ht ht2 hi hisz hsrc (b := b) (off := off) (k := k) (cap := cap) hfit (w' := w.setRow b (laid c (off + k * sz) news)) (by simpa [laid] using hst)
        intro pos after gd next Q hn
        refine wp_value ?_ (hn G _ _ _ (h2.putV hd rfl (.arr b off (k + m) cap) rfl) hp2 hk')
        simp [execOp, resolve, invoke, builtin, e1, hrun]
  · have hgr : cap < k + m := by omega
    obtain ⟨hroom, hk⟩ := hgrow hgr
    -- a new row
    have grow : ∀ (base : Option Addr) (us : List Value), a.eval u = .slice base k cap → us.length = k * sz → olds.length = k * sz → Fl olds → views olds = olds →
        (Builtin.firstCells sz k (.slice base k cap)).run P w.drew = .ok us.toArray w.drew → (∀ (j : Nat) (c : AV) (u : Value), olds[j]? = some c → us[j]? = some u → VR w G.R c u) →
        Eff P G n D w a (.call { callee := .builtin .append, args := #[u, v], argTypes := #[t, t'] }) ty d K := by
      intro base us e1 hul hol2 hof hov hfc hvals
      have hrun := run_app_grow (ty := ty) ht ht2 hi hz hisz hsrc hfc hgr (by rw [hby]; exact hroom) (by rw [hby]; exact hbpos)
      have hge : k + m ≤ grownCap w (k + m) cap e := grownCap_ge w (k + m) cap e
      obtain ⟨zz1, zz2, zz3, zz4, _⟩ := hzz0 (grownCap w (k + m) cap e - (k + m))
      obtain ⟨G2, h3, h4⟩ := (h.drew).newS (t := e) (c := us.toArray ++ news.toArray ++ Builtin.zeroCells zv.cells (grownCap w (k + m) cap e - (k + m)))
        (cs := olds ++ ds ++ (List.replicate (grownCap w (k + m) cap e - (k + m)) z).flatten) (d := d) hd (.inr ⟨k + m, grownCap w (k + m) cap e, rfl, rfl⟩)
        (fun G' w' o hp => by
          have hl1 := hsrc.len
          have hl2 := hsrc.lenD
          refine ⟨by simp only [Array.size_append, List.size_toArray, List.length_append, zz2]; rw [Array.length_toList] at zz1; omega, fun j x y hx hy => ?_⟩
          have own_view : ∀ (l : List AV) (q : Nat), views l = l → l[q]? = some x → OwnR G' w' (o j) x y := by
            intro l q hvl hq
            rw [← hvl, views_get] at hq
            cases hz' : l[q]? with
            | none => rw [hz'] at hq; cases hq
            | some x' => rw [hz'] at hq; simp at hq; rw [← hq]; exact OwnR.view ..
          by_cases hj1 : j < olds.length
          · rw [List.append_assoc, List.getElem?_append_left hj1] at hx
            rw [Array.append_assoc, Array.getElem?_append_left (by simp; omega)] at hy
            exact ⟨hp.vr h.drew.good ((Pres.drew G w).vr h.good (hvals j x y hx (by simpa using hy))), own_view _ _ hov hx⟩
          · by_cases hj2 : j < olds.length + ds.length
            · rw [List.getElem?_append_left (by simp; omega), List.getElem?_append_right (by omega)] at hx
              rw [Array.getElem?_append_left (by simp; omega), Array.getElem?_append_right (by simp; omega)] at hy
              simp only [List.size_toArray, List.getElem?_toArray] at hy
              rw [hul, ← hol2] at hy
              exact ⟨hp.vr h.drew.good ((Pres.drew G w).vr h.good (hsrc.vals _ x y hx hy)), own_view _ _ hsrcN.vw hx⟩
            · rw [List.getElem?_append_right (by simp; omega)] at hx
              rw [Array.getElem?_append_right (by simp; omega)] at hy
              have ea : (us.toArray ++ news.toArray).size = olds.length + ds.length := by simp; omega
              rw [ea] at hy
              rw [List.length_append] at hx
              have := zz3 _ x y hx (by simpa using hy)
              exact ⟨cR_vr this w' G'.R, cR_own this G' w' _⟩)
        (fun c hc => by
          rcases List.mem_append.1 hc with hc | hc
          · rcases List.mem_append.1 hc with hc | hc
            · exact hof c hc
            · exact hsrc.fl c hc
          · exact zz4 c hc)
      intro pos after gd next Q hn
      refine wp_value ?_ (hn G2 _ _ _ h3 ((Pres.drew G w).trans h4) (hk _ _ (h.store.get_none h.good) hge))
      simp [execOp, resolve, invoke, builtin, e1, hrun]
    rcases VR.inv_arr' hbx with e1 | ⟨rfl, rfl, e1⟩
    · rcases hold with ⟨rfl, rfl⟩ | ⟨cs, hsb, hle, rfl⟩
      · exact grow _ [] e1 (by simp) (by simp) Fl.nil rfl (run_firstCells_some w.drew sz 0 ⟨b, off, none⟩ 0 cap [] (by simp) (fun j v hj => by simp at hj)) (fun j c u hc => by simp at hc)
      · have hat := h.store.at hsb hle
        obtain ⟨us, u1, u2, u3⟩ := hat.vals
        have hfl : Fl (views (AB.sub cs off (k * sz))) := by obtain ⟨_, _, _, hf⟩ := hat; exact hf
        have hlen : (views (AB.sub cs off (k * sz))).length = k * sz := by simp only [views, List.length_map]; exact len_sub hle
        exact grow _ us e1 (by rw [u1, hlen]) hlen hfl (views_views _) (run_firstCells_some w.drew sz k ⟨b, off, none⟩ k cap us (by rw [u1, hlen]) u2) u3
    · rcases hold with ⟨_, rfl⟩ | ⟨cs, hsb, hle, rfl⟩
      · exact grow none [] e1 (by simp) (by simp) Fl.nil rfl (by simp [Builtin.firstCells]) (fun j c u hc => by simp at hc)
      · have : views (AB.sub cs off (0 * sz)) = [] := by simp [AB.sub, views]
        rw [this] at grow
        exact grow none [] e1 (by simp) (by simp) Fl.nil rfl (by simp [Builtin.firstCells]) (fun j c u hc => by simp at hc)
theorem run_app_zeros {t t' ty e : TypeId} {i : TypeInfo} {z : Value} {sz m : Nat} {k' : IntKind} (ht : P.underlying t = some (.slice e)) (ht' : P.underlying t' = some (.int k')) (hi : P.info? e = some i) (hz : i.zero = some z) (hsz : i.size = sz) (hsz0 : 0 < sz) {c : Int} (hc0 : 0 ≤ c) (hm : c.toNat = m) {base : Option Addr} {k cap : Nat} {olds : List Value}
    (hold : (Builtin.firstCells sz k (.slice base k cap)).run P w.drew = .ok olds.toArray w.drew) (hroom : cap < k + m) (hbytes : (k + m) * i.bytes ≤ room) (hb0 : 0 < i.bytes) :
    (Builtin.append_ #[t, t'] ty #[.slice base k cap, .int .i64 c]).run P w = .ok (.slice (some ⟨w.heap.size, 0, none⟩) (k + m) (grownCap w (k + m) cap e))
      (w.drew.alloc (.cells (olds.toArray ++ Builtin.zeroCells z.cells m ++ Builtin.zeroCells z.cells (grownCap w (k + m) cap e - (k + m))) e)) := by
  subst hsz
  subst hm
  have h3 : ¬ (k + c.toNat ≤ cap) := by omega
  have h4 : ¬ (281474976710656 < Builtin.nextslicecap (k + c.toNat) cap * i.bytes) := by have := growslice_fits hroom hbytes; omega
  have h5 : k + c.toNat ≤ (k + c.toNat) * i.bytes := Nat.le_mul_of_pos_right _ hb0
  have hbytes' := hbytes
  unfold room at hbytes'
  have hcb : c ≤ 140737488355328 := by omega
  have h6 : ¬ ((9223372036854775807 : Int) < (k : Int) + (c.toNat : Int)) := by omega
  have h6' : ¬ ((9223372036854775807 : Int) < (k : Int) + c) := by omega
  have h6'' : ¬ ((9223372036854775807 : Int) < (k : Int) + max c 0) := by omega
  have hw : IntKind.i64.wrap c = c := wrap64_id hc0 (by omega)
  have h7 : ¬ (c < 0) := by omega
  have h8 : ¬ ((281474976710656 : Int) < c * (i.bytes : Int)) := by
    have h9 : c.toNat * i.bytes ≤ (k + c.toNat) * i.bytes := Nat.mul_le_mul_right _ (by omega)
    have h10 : ((c.toNat * i.bytes : Nat) : Int) = c * (i.bytes : Int) := by rw [Int.natCast_mul, Int.toNat_of_nonneg hc0]
    omega
  by_cases hc1 : c.toNat = 0
  · have : Builtin.zeroCells z.cells c.toNat = #[] := by rw [hc1]; simp [Builtin.zeroCells]
    have hm0 : c.toNat * i.size = 0 := by rw [hc1, Nat.zero_mul]
    simp [Builtin.append_, run_underlying ht, run_underlying ht', sizeOf, typeInfo, zeroValue, hi, hz, asInt, asIntOf, hw, h7, h8, h3, h4, h6, h6', h6'', hm0, Question.forced, hold, newRow, grownCap, this] <;>
      (congr 2; apply Array.ext'; simp [List.append_assoc])
  · have hm0 : ¬ (c.toNat * i.size = 0) := by
      intro e
      rcases Nat.mul_eq_zero.1 e with e | e <;> omega
    simp [Builtin.append_, run_underlying ht, run_underlying ht', sizeOf, typeInfo, zeroValue, hi, hz, asInt, asIntOf, hw, h7, h8, h3, h4, h6, h6', h6'', hm0, Question.forced, hold, newRow, grownCap] <;>
      (congr 2; apply Array.ext'; simp [List.append_assoc])
theorem eff_appendZ (h : Inv G n D σ a w) {op : Op} {ty : TypeId} {sz by' : Nat} {z : List AV} {x y : IX} {d : Option Nat} {K : St → Prop} (hd : dstOK n d = true) (hc : chkOp P op ty (.appendZ sz by' z x y) = true) (hw : iwp P (.appendZ sz by' z x y) d σ K) : Eff P G n D w a op ty d K := by
  cases op <;> first | (simp [chkOp] at hc; done) | skip
  rename_i c
  simp only [chkOp] at hc
  split at hc <;> try (cases hc; done)
  rename_i u v t t' hb
  have hce := asB_eq hb
  subst hce
  simp only [Bool.and_eq_true] at hc
  obtain ⟨⟨⟨hu, hv⟩, ht'⟩, hc⟩ := hc
  obtain ⟨k', ht2⟩ := intT_eq ht'
  split at hc <;> try (cases hc; done)
  rename_i e ht
  have ht := elemOfSl_eq ht
  simp only [Bool.and_eq_true] at hc
  obtain ⟨⟨⟨⟨hs, hby⟩, hpos⟩, hbpos⟩, hzi⟩ := hc
  obtain ⟨i, hi, hisz⟩ := sizeIs_eq hs
  obtain ⟨zv, _, ⟨i1, hi1, hz, hz1⟩, hzz0⟩ := zeros_facts hzi
  rw [hi] at hi1; injection hi1 with hi1; subst hi1
  have hpos := of_decide_eq_true hpos
  have hbpos := of_decide_eq_true hbpos
  have hby : i.bytes = by' := by
    unfold bytesIs at hby
    rw [hi] at hby
    simpa using hby
  have hw' : appendZW sz by' z σ d K (σ.x x) (xg true σ y) := hw
  have hbx := XR.of_inv h hu
  have hbv := BR.of_inv h hv
  generalize σ.x x = xv at hw' hbx
  generalize xg true σ y = yv at hw' hbv
  unfold appendZW at hw'
  split at hw' <;> try (exact hw'.elim)
  rename_i b off k cap q
  obtain ⟨hq0, hgr, hvz, hw'⟩ := hw'
  have ev := VR.inv_int hbv
  generalize hm : q.toNat = m at hw' hgr
  obtain ⟨zm1, zm2, zm3, zm4, zm5⟩ := hzz0 m
  cases hol : oldsV σ.s sz b off k with
  | none => rw [hol] at hw'; exact hw'.elim
  | some olds =>
  rw [hol] at hw'
  obtain ⟨hzl2, hstay, hgrow⟩ := hw'
  have hold : k = 0 ∧ olds = [] ∨ ∃ cs, σ.s b = some (.cells cs) ∧ off + k * sz ≤ cs.length ∧ olds = views (AB.sub cs off (k * sz)) := by
    unfold oldsV at hol
    by_cases hk : k = 0
    · subst hk
      injection hol with hol; exact .inl ⟨rfl, hol.symm⟩
    · rw [show (k == 0) = false by simpa using hk] at hol
      cases hca : cellsAt k sz off (σ.s b) with
      | none => rw [hca] at hol; cases hol
      | some q =>
        rw [hca] at hol; injection hol with hol
        obtain ⟨q1, q2⟩ := q
        obtain ⟨cs, e1, e2, _, e4⟩ := cellsAt_eq hca
        exact .inr ⟨cs, e1, e2, by rw [← hol]; exact e4⟩
  obtain ⟨hroom, hk⟩ := hgrow hgr
  obtain ⟨ds, hds⟩ : ∃ ds, ds = (List.replicate m z).flatten := ⟨_, rfl⟩
  obtain ⟨news, hnews⟩ : ∃ news, news = (Builtin.zeroCells zv.cells m).toList := ⟨_, rfl⟩
  have hvds : views ds = ds := by
    rw [hds]; unfold views at hvz ⊢
    rw [List.map_flatten, List.map_replicate, hvz]
  rw [← hds] at hk
  -- a new row
  have grow : ∀ (base : Option Addr) (us : List Value), a.eval u = .slice base k cap → us.length = k * sz → olds.length = k * sz → Fl olds → views olds = olds →
      (Builtin.firstCells sz k (.slice base k cap)).run P w.drew = .ok us.toArray w.drew → (∀ (j : Nat) (c : AV) (u : Value), olds[j]? = some c → us[j]? = some u → VR w G.R c u) →
      Eff P G n D w a (.call { callee := .builtin .append, args := #[u, v], argTypes := #[t, t'] }) ty d K := by
    intro base us e1 hul hol2 hof hov hfc hvals
    have hrun := run_app_zeros (ty := ty) ht ht2 hi hz hisz hpos hq0 hm hfc hgr (by rw [hby]; exact hroom) (by rw [hby]; exact hbpos)
    have hge : k + m ≤ grownCap w (k + m) cap e := grownCap_ge w (k + m) cap e
    obtain ⟨zz1, zz2, zz3, zz4, _⟩ := hzz0 (grownCap w (k + m) cap e - (k + m))
    obtain ⟨G2, h3, h4⟩ := (h.drew).newS (t := e) (c := us.toArray ++ Builtin.zeroCells zv.cells m ++ Builtin.zeroCells zv.cells (grownCap w (k + m) cap e - (k + m)))
      (cs := olds ++ ds ++ (List.replicate (grownCap w (k + m) cap e - (k + m)) z).flatten) (d := d) hd (.inr ⟨k + m, grownCap w (k + m) cap e, rfl, rfl⟩)
      (fun G' w' o hp => by
        have hl1 : news.length = m * sz := by rw [hnews, zm1, hzl2]
        have hl2 : ds.length = m * sz := by rw [hds, zm2, hzl2]
        have hna : Builtin.zeroCells zv.cells m = news.toArray := by rw [hnews]
        rw [hna]
        refine ⟨by simp only [Array.size_append, List.size_toArray, List.length_append, zz2]; rw [Array.length_toList] at zz1; omega, fun j x y hx hy => ?_⟩
        have own_view : ∀ (l : List AV) (q : Nat), views l = l → l[q]? = some x → OwnR G' w' (o j) x y := by
          intro l q hvl hq
          rw [← hvl, views_get] at hq
          cases hz' : l[q]? with
          | none => rw [hz'] at hq; cases hq
          | some x' => rw [hz'] at hq; simp at hq; rw [← hq]; exact OwnR.view ..
        by_cases hj1 : j < olds.length
        · rw [List.append_assoc, List.getElem?_append_left hj1] at hx
          rw [Array.append_assoc, Array.getElem?_append_left (by simp; omega)] at hy
          exact ⟨hp.vr h.drew.good ((Pres.drew G w).vr h.good (hvals j x y hx (by simpa using hy))), own_view _ _ hov hx⟩
        · by_cases hj2 : j < olds.length + ds.length
          · rw [List.getElem?_append_left (by simp; omega), List.getElem?_append_right (by omega)] at hx
            rw [Array.getElem?_append_left (by simp; omega), Array.getElem?_append_right (by simp; omega)] at hy
            simp only [List.size_toArray, List.getElem?_toArray] at hy
            rw [hul, ← hol2] at hy
            exact ⟨hp.vr h.drew.good ((Pres.drew G w).vr h.good (cR_vr (zm3 _ x y (by rw [← hds]; exact hx) (by rw [← hnews]; exact hy)) w G.R)), own_view _ _ hvds hx⟩
          · rw [List.getElem?_append_right (by simp; omega)] at hx
            rw [Array.getElem?_append_right (by simp; omega)] at hy
            have ea : (us.toArray ++ news.toArray).size = olds.length + ds.length := by simp; omega
            rw [ea] at hy
            rw [List.length_append] at hx
            have := zz3 _ x y hx (by simpa using hy)
            exact ⟨cR_vr this w' G'.R, cR_own this G' w' _⟩)
      (fun c hc => by
        rcases List.mem_append.1 hc with hc | hc
        · rcases List.mem_append.1 hc with hc | hc
          · exact hof c hc
          · exact zm4 c (by rw [← hds]; exact hc)
        · exact zz4 c hc)
    intro pos after gd next Q hn
    refine wp_value ?_ (hn G2 _ _ _ h3 ((Pres.drew G w).trans h4) (hk _ _ (h.store.get_none h.good) hge))
    simp [execOp, resolve, invoke, builtin, e1, ev, hrun]
  rcases VR.inv_arr' hbx with e1 | ⟨rfl, rfl, e1⟩
  · rcases hold with ⟨rfl, rfl⟩ | ⟨cs, hsb, hle, rfl⟩
    · exact grow _ [] e1 (by simp) (by simp) Fl.nil rfl (run_firstCells_some w.drew sz 0 ⟨b, off, none⟩ 0 cap [] (by simp) (fun j v hj => by simp at hj)) (fun j c u hc => by simp at hc)
    · have hat := h.store.at hsb hle
      obtain ⟨us, u1, u2, u3⟩ := hat.vals
      have hfl : Fl (views (AB.sub cs off (k * sz))) := by obtain ⟨_, _, _, hf⟩ := hat; exact hf
      have hlen : (views (AB.sub cs off (k * sz))).length = k * sz := by simp only [views, List.length_map]; exact len_sub hle
      exact grow _ us e1 (by rw [u1, hlen]) hlen hfl (views_views _) (run_firstCells_some w.drew sz k ⟨b, off, none⟩ k cap us (by rw [u1, hlen]) u2) u3
  · rcases hold with ⟨_, rfl⟩ | ⟨cs, hsb, hle, rfl⟩
    · exact grow none [] e1 (by simp) (by simp) Fl.nil rfl (by simp [Builtin.firstCells]) (fun j c u hc => by simp at hc)
    · have : views (AB.sub cs off (0 * sz)) = [] := by simp [AB.sub, views]
      rw [this] at grow
      exact grow none [] e1 (by simp) (by simp) Fl.nil rfl (by simp [Builtin.firstCells]) (fun j c u hc => by simp at hc)
end
end Go.AB
end

section
namespace Go.AB
open Go
section
variable {P : Program} {G G' : Gh} {n : Nat} {D : List Deferred} {σ : St} {a : Act} {w w' : World}
theorem run_copy {t t' ty e : TypeId} (ht : P.underlying t = some (.slice e)) {sz m k cap : Nat} (hs : sizeIs P e sz = true) {R : Nat → Nat} {ds : List AV} {v : Value} {news : List Value} (h : SrcN P w R sz m ds v news) {base : Option Addr} {w' : World}
  (hst : ∀ ad, base = some ad → (storeCells ad (news.take (min m k * sz))).run P w = .ok () w') (hnone : base = none → w' = w) :
  (Builtin.copy_ #[t, t'] ty #[.slice base k cap, v]).run P w = .ok (.int .i64 (min m k : Nat)) w' := by
 have h1 := h.lenOf w
 have h2 := h.first (min m k) (Nat.min_le_left _ _) w rfl
 cases base with
 | none =>
  have := hnone rfl
  subst this
  simp [Builtin.copy_, run_underlying ht, run_sizeOf hs, h1, h2, goInt]
 | some ad =>
  have h3 := hst ad rfl
  simp [Builtin.copy_, run_underlying ht, run_sizeOf hs, h1, h2, h3, goInt]
theorem eff_copyA (h : Inv G n D σ a w) {op : Op} {ty : TypeId} {sz : Nat} {x y : IX} {d : Option Nat} {K : St → Prop} (hd : dstOK n d = true) (hc : chkOp P op ty (.copyA sz x y) = true) (hw : iwp P (.copyA sz x y) d σ K) : Eff P G n D w a op ty d K := by
  cases op <;> first | (simp [chkOp] at hc; done) | skip
  rename_i c
  simp only [chkOp] at hc
  split at hc <;> try (cases hc; done)
  rename_i u v t t' hb
  have hce := asB_eq hb
  subst hce
  simp only [Bool.and_eq_true] at hc
  obtain ⟨⟨hu, hv⟩, hc⟩ := hc
  split at hc <;> try (cases hc; done)
  rename_i e ht
  have ht := elemOfSl_eq ht
  have hw' : copyAW sz σ d K (σ.x x) (srcV σ.s sz (σ.x y)) := hw
  have hbx := XR.of_inv h hu
  generalize σ.x x = xv at hw' hbx
  cases hsv : srcV σ.s sz (σ.x y) with
  | none => rw [hsv] at hw'; unfold copyAW at hw'; split at hw' <;> first | (rename_i hh; cases hh; done) | exact hw'.elim
  | some md =>
  obtain ⟨m, ds⟩ := md
  rw [hsv] at hw'
  obtain ⟨news, hsrc⟩ := srcV_sound (P := P) h hv hsv
  unfold copyAW at hw'
  split at hw' <;> try (exact hw'.elim)
  rename_i b off k cap _ _ he0
  injection he0 with he0; injection he0 with e1 e2; subst e1; subst e2
  rcases hw' with ⟨hmin, hk⟩ | ⟨hroom, hk⟩
  · intro pos after gd next Q hn
    refine wp_value (w' := w) (v := .int .i64 0) ?_ (hn G _ _ _ (h.putV hd rfl (.int _ _) rfl) (Pres.refl G w) hk)
    rcases VR.inv_arr' hbx with e1 | ⟨rfl, rfl, e1⟩
    · have hrun := run_copy (ty := ty) (t' := t') (w := w) ht hc hsrc (base := some ⟨b, off, none⟩) (k := k) (cap := cap) (w' := w) (fun ad _ => by rw [hmin]; simp; rfl) (fun hh => by cases hh)
      rw [hmin] at hrun
      simp [execOp, resolve, invoke, builtin, e1, hrun]
    · have hrun := run_copy (ty := ty) (t' := t') (w := w) ht hc hsrc (base := none) (k := 0) (cap := 0) (w' := w) (fun ad hh => by cases hh) (fun _ => rfl)
      simp at hrun
      simp [execOp, resolve, invoke, builtin, e1, hrun]
  · obtain ⟨cs, hsb, hfit⟩ := roomyV_eq hroom
    rw [hsb] at hk
    have hk' : K ({ σ with s := σ.s.set b (.cells (setAt cs off (ds.take (min m k * sz)))) }.put d (.int .i64 (min m k : Nat))) := hk
    obtain ⟨_, _, c, et, hcb, hcr, hcf⟩ := h.store b _ hsb
    have hle1 : min m k * sz ≤ m * sz := Nat.mul_le_mul_right _ (Nat.min_le_left _ _)
    have hle2 : min m k * sz ≤ k * sz := Nat.mul_le_mul_right _ (Nat.min_le_right _ _)
    have hl1 : (ds.take (min m k * sz)).length = min m k * sz := by simp [hsrc.lenD, hle1]
    have hl2 : (news.take (min m k * sz)).length = min m k * sz := by simp [hsrc.len, hle1]
    rcases VR.inv_arr' hbx with e1 | ⟨rfl, rfl, e1⟩
    · obtain ⟨h2, hp2⟩ := h.rowWritten (off := off) (ds := ds.take (min m k * sz)) (news := news.take (min m k * sz)) hsb hcb (by rw [hl1, hl2]) (by rw [hl1]; omega) (fun c hc => hsrc.fl c (List.mem_of_mem_take hc))
        (by
          have := hsrc.vw
          unfold views at this ⊢
          rw [List.map_take, this]) (fun j x y hx hy => by
          rw [List.getElem?_take] at hx hy
          split at hx
          · rename_i hj; rw [if_pos hj] at hy; exact hsrc.vals j x y hx hy
          · cases hx)
      have hfit3 : off + (news.take (min m k * sz)).length ≤ c.size := by rw [hl2, hcr.1]; omega
      have hst := run_storeCells_free (P := P) b off et (0, 0) (news.take (min m k * sz)) 0 c w hcb (fun j _ hj => by simp at hj) (by simpa using hfit3) (fun u hu => hsrc.one u (List.mem_of_mem_take hu))
      have hrun := run_copy (ty := ty) (t' := t') (w := w) ht hc hsrc (base := some ⟨b, off, none⟩) (k := k) (cap := cap) (w' := w.setRow b (laid c off (news.take (min m k * sz)))) (fun ad had => by injection had with had; subst had; simpa [laid] using hst) (fun hh => by cases hh)
      intro pos after gd next Q hn
      refine wp_value ?_ (hn G _ _ _ (h2.putV hd rfl (.int _ _) rfl) hp2 hk')
      simp [execOp, resolve, invoke, builtin, e1, hrun]
    · have h0 : min m 0 = 0 := Nat.min_zero m
      rw [h0, Nat.zero_mul, List.take_zero, setAt_nil, store_set_self hsb] at hk'
      have hrun := run_copy (ty := ty) (t' := t') (w := w) ht hc hsrc (base := none) (k := 0) (cap := 0) (w' := w) (fun ad hh => by cases hh) (fun _ => rfl)
      intro pos after gd next Q hn
      refine wp_value (w' := w) ?_ (hn G _ _ _ (h.putV hd rfl (.int .i64 (0 : Nat)) rfl) (Pres.refl G w) hk')
      simp at hrun
      simp [execOp, resolve, invoke, builtin, e1, hrun]
theorem eff_clearA (h : Inv G n D σ a w) {op : Op} {ty : TypeId} {z : List AV} {x : IX} {d : Option Nat} {K : St → Prop} (hd : dstOK n d = true) (hc : chkOp P op ty (.clearA z x) = true) (hw : iwp P (.clearA z x) d σ K) : Eff P G n D w a op ty d K := by
  cases op <;> first | (simp [chkOp] at hc; done) | skip
  rename_i c
  simp only [chkOp] at hc
  split at hc <;> try (cases hc; done)
  rename_i u us t ts hb
  have hce := asB_eq hb
  subst hce
  simp only [Bool.and_eq_true] at hc
  obtain ⟨hu, hc⟩ := hc
  split at hc <;> try (cases hc; done)
  rename_i e ht
  have ht := elemOfSl_eq ht
  have hw' : clearAW z σ d K (σ.x x) := hw
  have hbx := XR.of_inv h hu
  generalize σ.x x = xv at hw' hbx
  unfold clearAW at hw'
  split at hw' <;> try (exact hw'.elim)
  rename_i b off k cap
  obtain ⟨v, hv1, _, hv2⟩ := zeros_facts hc
  obtain ⟨z1, z2, z3', z4, z5⟩ := hv2 k
  have z3 : ∀ (j : Nat) (x : AV) (y : Value), (List.replicate k z).flatten[j]? = some x → (Builtin.zeroCells v.cells k).toList[j]? = some y → VR w G.R x y := fun j x y hx hy => cR_vr (z3' j x y hx hy) w G.R
  rcases hw' with ⟨hk0, hk⟩ | ⟨hroom, hvw, hk⟩
  · subst hk0
    intro pos after gd next Q hn
    refine wp_value (w' := w) (v := .tuple #[]) ?_ (hn G _ _ _ (h.putT hd) (Pres.refl G w) hk)
    rcases VR.inv_arr' hbx with e1 | ⟨_, rfl, e1⟩ <;> simp [execOp, resolve, invoke, builtin, e1, Builtin.clear_, run_underlying ht]
  · obtain ⟨cs, hsb, hfit⟩ := roomyV_eq hroom
    rw [hsb] at hk
    have hk' : K ({ σ with s := σ.s.set b (.cells (setAt cs off (List.replicate k z).flatten)) }.put d (.tup [])) := hk
    obtain ⟨_, _, c, et, hcb, hcr, hcf⟩ := h.store b _ hsb
    by_cases hk0 : k = 0
    · subst hk0
      simp only [List.replicate_zero, List.flatten_nil, setAt_nil, store_set_self hsb] at hk'
      intro pos after gd next Q hn
      refine wp_value (w' := w) (v := .tuple #[]) ?_ (hn G _ _ _ (h.putT hd) (Pres.refl G w) hk')
      rcases VR.inv_arr' hbx with e1 | ⟨_, rfl, e1⟩ <;> simp [execOp, resolve, invoke, builtin, e1, Builtin.clear_, run_underlying ht]
    · rcases VR.inv_arr' hbx with e1 | ⟨h0, _, _⟩
      · obtain ⟨h2, hp2⟩ := h.rowWritten (off := off) (ds := (List.replicate k z).flatten) (news := (Builtin.zeroCells v.cells k).toList) hsb hcb (by rw [z1, z2]) (by rw [z2]; exact hfit) z4
          (by
            unfold views
            rw [List.map_flatten, List.map_replicate]
            unfold views at hvw
            rw [hvw]) z3
        have hst := run_storeCells_free (P := P) b off et (0, 0) (Builtin.zeroCells v.cells k).toList 0 c w hcb (fun j _ hj => by simp at hj) (by rw [z1, hcr.1]; simpa using hfit) z5
        have hst' : (storeCells ⟨b, off, none⟩ (Builtin.zeroCells v.cells k).toList).run P w = .ok () (w.setRow b (laid c off (Builtin.zeroCells v.cells k).toList)) := by simpa [laid] using hst
        intro pos after gd next Q hn
        refine wp_value (v := .tuple #[]) ?_ (hn G _ _ _ (h2.putT hd) hp2 hk')
        have hrun : (Builtin.clear_ (t :: ts).toArray ty (Array.map a.eval (u :: us).toArray)).run P w = .ok (.tuple #[]) (w.setRow b (laid c off (Builtin.zeroCells v.cells k).toList)) := by
          obtain ⟨k', rfl⟩ : ∃ k', k = k' + 1 := ⟨k - 1, by omega⟩
          simp [Builtin.clear_, run_underlying ht, e1, hv1, hst']
        simp [execOp, resolve, invoke, builtin] at hrun ⊢; simp [hrun]
      · exact absurd h0 hk0
end
end Go.AB
end

section
namespace Go.AB
open Go
section
variable {P : Program} {G G' : Gh} {n : Nat} {D : List Deferred} {σ : St} {a : Act} {w w' : World}
theorem Inv.frozen (h : Inv G n D σ a w) {d : Option Nat} (hd : dstOK n d = true) {b off sz k cap : Nat} {cs : List AV} {own : Bool} (hs : σ.s b = some (.cells cs)) (hfit : off + k * sz ≤ cs.length) (hcap : k ≤ cap) (hown : own = true → off = 0 ∧ cs.length = off + cap * sz) :
    ∃ G', Inv G' n D ({ σ with s := σ.s.del b }.put d (.sl own sz k (views (AB.sub cs off (k * sz))))) (a.put d (.slice (some ⟨b, off, none⟩) k cap)) w ∧ Pres G w G' w := by
  obtain ⟨q2, q3, c, t, q4, q5, q6⟩ := h.store b _ hs
  let ob : Owner := if own = true then ownT d else .none
  let G' := G.upd b ob (off + k * sz)
  have hpres : Pres G w G' w := ⟨rfl, rfl, rfl, Nat.le_refl _, Nat.le_refl _, fun b' _ => by
      by_cases hb : b' = b
      · subst hb; rw [q3]; exact Nat.zero_le _
      · simp [G', hb], fun _ _ _ _ => rfl, fun _ _ _ => rfl, fun b' _ hb' => by
      have : b' ≠ b := fun e => by subst e; rw [q2] at hb'; cases hb'
      simp [G', this, hb'], fun b' _ hb' => by
      have : b' ≠ b := fun e => by subst e; rw [q2] at hb'; cases hb'
      simp [G', this, hb']⟩
  have hlt : b < w.heap.size := h.good.lt (by rw [q2]; simp)
  have hgood : GoodW G' w := ⟨fun b' hb' => by
      have : b' ≠ b := by omega
      simp [G', this, h.good.newO b' hb'], fun b' hb' => by
      have : b' ≠ b := by omega
      simp [G', this, h.good.newR b' hb']⟩
  have same : ∀ b', G.O b' ≠ .sh ∨ b' ≠ b → G'.O b' = G.O b' ∧ G'.R b' = G.R b' ∧ w.heap[b']? = w.heap[b']? := fun b' hb' => by
    have : b' ≠ b := by
      rcases hb' with hb' | hb'
      · exact fun e => by subst e; exact hb' q2
      · exact hb'
    exact ⟨by simp [G', this], by simp [G', this], rfl⟩
  have hst : StoreR G' w (σ.s.del b) := by
    intro b' o hb'
    unfold Store.del at hb'
    split at hb'
    · cases hb'
    · rename_i hne
      obtain ⟨r1, r2, r3⟩ := h.store b' o hb'
      refine ⟨(same b' (.inr hne)).1.trans r1, (same b' (.inr hne)).2.1.trans r2, ?_⟩
      cases o with
      | cells cs' =>
        obtain ⟨c', t', r4, r5, r6⟩ := r3
        exact ⟨c', t', r4, r5.mono (fun _ _ hv => hpres.vr h.good hv) (fun b'' j hb'' => by
          obtain ⟨x1, x2, x3⟩ := same b'' (.inl (by rw [hb'']; simp))
          exact ⟨x1.trans hb'', x2, x3⟩), r6⟩
      | map es =>
        obtain ⟨ents, clock, r4, r5, r6⟩ := r3
        exact ⟨ents, clock, r4, r5, fun j x y hx hy => ⟨hpres.vr h.good (r6 j x y hx hy).1, hpres.vr h.good (r6 j x y hx hy).2⟩⟩
  have hat := h.store.at hs hfit
  obtain ⟨u, u1, u2, u3⟩ := hat
  have hlen : (views (AB.sub cs off (k * sz))).length = k * sz := by simp only [views, List.length_map]; exact len_sub hfit
  have := h.put (s' := σ.s.del b) (lp' := σ.lp) d (fun i hi => by subst hi; simpa [dstOK] using hd) (.sl own sz k (views (AB.sub cs off (k * sz)))) (.slice (some ⟨b, off, none⟩) k cap) hgood hpres hst (fun _ hx => hx) (fun i t _ ht => ht.elim) (fun i t _ ⟨cs', hcs'⟩ => by cases hcs')
    (fun i b' _ hb' => same b' (.inl (by rcases hb' with ⟨j, hb'⟩ | hb' <;> rw [hb'] <;> simp)))
    (fun i b' c' j _ _ hc' => by
      obtain ⟨x1, x2, x3⟩ := same c' (.inl (by rw [hc']; simp))
      exact ⟨x1.trans hc', x2, x3⟩)
    (fun i hi => by
      subst hi
      refine ⟨.sl own sz k _ b off cap u u3 hlen (by rw [hlen]; simp [G']) hcap u1 (fun j x hj => hpres.vr h.good (u2 j x hj)), ?_⟩
      cases own with
      | false => trivial
      | true =>
        intro base m' cap' hv _
        injection hv with e1 e2 e3
        subst e3
        exact ⟨b, off, c, t, (0, 0), e1.symm, by simp [G', ob, ownT], by simp [G'], q4, by rw [q5.1, (hown rfl).2], fun j _ hj => by simp at hj, Nat.le_refl _, (hown rfl).1, .inl rfl, fun j y _ hy => by
          have hlt : j < cs.length := by rw [← q5.1]; exact (Array.getElem?_eq_some_iff.1 hy).1
          exact oneCell_of_flatT (q6 _ (List.getElem_mem hlt)) (q5.2 j _ y (List.getElem?_eq_getElem hlt) hy).1⟩)
  exact ⟨G', by cases d <;> exact this, hpres⟩
theorem Inv.frzVal (h : Inv G n D σ a w) {sz : Nat} {own : Bool} {d : Option Nat} {K : St → Prop} (hd : dstOK n d = true) {xv : AV} {v : Value} (hbx : isV xv = true → VR w G.R xv v) (hw' : frzW sz own σ d K xv) : ∃ (G' : Gh) (σ' : St), Inv G' n D σ' (a.put d v) w ∧ Pres G w G' w ∧ K σ' := by
  unfold frzW at hw'
  split at hw' <;> try (exact hw'.elim)
  rename_i b off k cap
  replace hbx := hbx rfl
  have empty : k = 0 → cap = 0 → off = 0 ∨ v = .slice none 0 0 → Inv G n D (σ.put d (.sl own sz 0 [])) (a.put d (v)) w := by
    intro hk0 hc0 hoff
    subst hk0; subst hc0
    have hvr : VR w G.R (.sl own sz 0 []) (v) := by
      rcases VR.inv_arr' hbx with e1 | ⟨_, _, e1⟩
      · rcases hoff with rfl | e2
        · rw [e1]; exact .sl own sz 0 [] b 0 0 (fun _ => undef) Fl.nil (by simp) (by simp) (Nat.le_refl _) (fun j c hj => by simp at hj) (fun j c hj => by simp at hj)
        · rw [e2]; exact .slnil _ _
      · rw [e1]; exact .slnil _ _
    have := h.put (s' := σ.s) (lp' := σ.lp) d (fun i hi => by subst hi; simpa [dstOK] using hd) (.sl own sz 0 []) (v) h.good (Pres.refl G w) h.store (fun _ hx => hx) (fun i t _ ht => ht.elim) (fun i t _ ⟨cs, hcs⟩ => by cases hcs)
      (fun _ _ _ _ => ⟨rfl, rfl, rfl⟩) (fun _ _ _ _ _ _ hcc => ⟨hcc, rfl, rfl⟩) (fun i hdi => by
        refine ⟨hvr, ?_⟩
        cases own with
        | false => trivial
        | true =>
          intro base m' cap' hv hc'
          rcases VR.inv_arr' hbx with e1 | ⟨_, _, e1⟩ <;> rw [e1] at hv <;> injection hv with _ e2 e3 <;> omega)
    cases d <;> exact this
  rcases hw' with ⟨rfl, rfl, rfl, hk⟩ | ⟨hpos, hcap, hown, hk⟩
  · exact ⟨G, _, empty rfl rfl (.inl rfl), Pres.refl G w, hk⟩
  · cases hca : cellsAt k sz off (σ.s b) with
    | none => rw [hca] at hk; exact hk.elim
    | some q =>
      obtain ⟨q1, q2⟩ := q
      rw [hca] at hk
      obtain ⟨cs, e1, e2, rfl, rfl⟩ := cellsAt_eq hca
      have hown' : own = true → off = 0 ∧ cs.length = off + cap * sz := fun ho => by
        have := (hown ho).2.2
        rw [e1] at this
        exact ⟨(hown ho).1, this⟩
      obtain ⟨G', h1, h2⟩ := h.frozen hd (own := own) e1 e2 hcap hown'
      have e3 := VR.inv_arr hbx hpos
      exact ⟨G', _, by rw [e3]; exact h1, h2, hk⟩
theorem eff_frz (h : Inv G n D σ a w) {op : Op} {ty : TypeId} {sz : Nat} {own : Bool} {x : IX} {d : Option Nat} {K : St → Prop} (hd : dstOK n d = true) (hc : chkOp P op ty (.frz sz own x) = true) (hw : iwp P (.frz sz own x) d σ K) : Eff P G n D w a op ty d K := by
 have key : ∀ y, chkX y x = true → ∃ (G' : Gh) (σ' : St), Inv G' n D σ' (a.put d (a.eval y)) w ∧ Pres G w G' w ∧ K σ' := by
  intro y hy
  have hbx := XR.of_inv h hy
  have hw' : frzW sz own σ d K (σ.x x) := hw
  generalize σ.x x = xv at hw' hbx
  refine h.frzVal hd (fun hi => ?_) hw'
  cases xv <;> first | exact hbx | (simp [isV] at hi)
 intro pos after g next Q hn
 cases op <;> first | (simp [chkOp] at hc; done) | skip
 all_goals
  rename_i y
  obtain ⟨G', σ', h1, h2, hk⟩ := key y hc
  exact wp_value rfl (hn G' _ _ _ h1 h2 hk)
theorem eff_loadF (h : Inv G n D σ a w) {op : Op} {ty : TypeId} {sz : Nat} {own : Bool} {x : IX} {d : Option Nat} {K : St → Prop} (hd : dstOK n d = true) (hc : chkOp P op ty (.loadF sz own x) = true) (hw : iwp P (.loadF sz own x) d σ K) : Eff P G n D w a op ty d K := by
 cases op <;> first | (simp [chkOp] at hc; done) | skip
 rename_i t y
 simp only [chkOp, Bool.and_eq_true] at hc
 obtain ⟨⟨hs, hm⟩, hy⟩ := hc
 have hb := BR.of_inv h hy
 have hw' : loadFW sz own σ d K (rd σ (xg true σ x) 1) := hw
 cases hr : rd σ (xg true σ x) 1 with
 | none => rw [hr] at hw'; exact hw'.elim
 | some cs =>
  rw [hr] at hw'
  obtain ⟨b, off, e, hl, hat, hvw⟩ := rd_sound h hb hr
  match cs, hl, hw' with
  | [c], hl, ⟨hi, hw'⟩ =>
   obtain ⟨v, hrun, hvr⟩ := loadVar_sound hs hm rfl hl hat
   obtain ⟨G', σ', h1, h2, hk⟩ := h.frzVal hd (v := v) (fun _ => hvr) hw'
   intro pos after g next Q hn
   exact wp_value (w' := w) (by simp [execOp, e, Instr.loadAt, Instr.sureAddr, hrun]) (hn G' _ _ _ h1 h2 hk)
theorem retag_cell (h : Inv G n D σ a w) (bl off : Nat) (T : Owner) (hT : T ≠ .sh ∧ (∀ i, T ≠ .loc i) ∧ (∀ i j, T ≠ .cell i j)) :
  GoodW (G.retag (.cell bl off) T) w ∧ Pres G w (G.retag (.cell bl off) T) w ∧ (∀ b, G.O b ≠ .cell bl off → (G.retag (.cell bl off) T).O b = G.O b) := by
 have hne : ∀ b, G.O b ≠ .cell bl off → (G.retag (.cell bl off) T).O b = G.O b := fun b hb => by simp [hb]
 exact ⟨⟨fun b hb => by rw [hne b (by rw [h.good.newO b hb]; simp), h.good.newO b hb], h.good.newR⟩,
  ⟨rfl, rfl, rfl, Nat.le_refl _, Nat.le_refl _, fun _ _ => Nat.le_refl _, fun _ _ _ _ => rfl, fun _ _ _ => rfl, fun b _ hb => ⟨by rw [hne b (by rw [hb]; simp), hb], rfl⟩, fun b _ hb => ⟨by rw [hne b (by rw [hb]; simp), hb], rfl⟩⟩, hne⟩
theorem OwnR.retag {o T : Owner} {av : AV} {v : Value} (h : OwnR G w o av v) : OwnR (G.retag o T) w T av v := by
  unfold OwnR at h ⊢
  split
  · rename_i sz m cs
    intro base m' cap hv hc
    obtain ⟨b, off, c, e, fz, q1, q2, q3⟩ := h base m' cap hv hc
    exact ⟨b, off, c, e, fz, q1, by simp [q2], q3⟩
  · rename_i e m cs
    intro base m' cap hv hc
    obtain ⟨b, off, c, fz, q1, q2, q3⟩ := h base m' cap hv hc
    exact ⟨b, off, c, fz, q1, by simp [q2], q3⟩
  · trivial
def isSl : AV → Bool
 | .sl _ _ _ _ => true
 | .bb _ _ _ => true
 | _ => false
theorem isSl_flat {av : AV} (h : isSl av = true) : flatV (view av) = true := by cases av <;> first | rfl | (cases h; done)
theorem CellsR.take {bl off : Nat} {T : Owner} {cs : List AV} {c : Array Value} {av : AV} (h : CellsR G w (.cell bl) cs c) (hcs : cs[off]? = some av) :
    CellsR (G.retag (.cell bl off) T) w (.cell bl) (setAt cs off [view av]) c := by
  have hlt : off + 1 ≤ cs.length := (List.getElem?_eq_some_iff.1 hcs).1
  refine ⟨by rw [setAt_len _ _ _ (by simpa using hlt)]; exact h.1, fun j x y hx hy => ?_⟩
  rw [setAt_get _ _ _ _ (by simpa using hlt)] at hx
  by_cases hj : j = off
  · subst hj
    rw [if_pos ⟨Nat.le_refl _, by simp⟩, Nat.sub_self] at hx
    injection hx with hx; subst hx
    exact ⟨(h.2 j _ y hcs hy).1.view, OwnR.view ..⟩
  · rw [if_neg (by simp; omega)] at hx
    obtain ⟨h1, h2⟩ := h.2 j x y hx hy
    refine ⟨h1, h2.mono fun b hb => ⟨?_, rfl, rfl⟩⟩
    have : G.O b ≠ .cell bl off := by rw [hb]; intro e; injection e with _ e; exact hj e
    rw [Gh.retag_O, if_neg this, hb]
def loadT : Option Nat → Owner
 | some i => .slot i 0
 | none => .frame
theorem eff_loadD (h : Inv G n D σ a w) {op : Op} {ty : TypeId} {x : IX} {d : Option Nat} {K : St → Prop} (hd : dstOK n d = true) (hc : chkOp P op ty (.loadD x) = true) (hw : iwp P (.loadD x) d σ K) : Eff P G n D w a op ty d K := by
  cases op <;> first | (simp [chkOp] at hc; done) | skip
  rename_i t y
  simp only [chkOp, Bool.and_eq_true] at hc
  obtain ⟨⟨⟨_, hs⟩, hm⟩, hy⟩ := hc
  have hbx := XR.of_inv h hy
  have hw' : loadDW σ d K (σ.x x) := hw
  have hT : loadT d ≠ .sh ∧ (∀ i, loadT d ≠ .loc i) ∧ (∀ i j, loadT d ≠ .cell i j) := by cases d <;> simp [loadT]
  have hrun : ∀ (b off : Nat) (u : Value), a.eval y = .pointer (some ⟨b, off, none⟩) → w.cell? ⟨b, off, none⟩ = some u → ∀ (pos : String) (after : Array Edge) (g : Option (Nat × Bool)), (execOp a.eval ⟨d, .load t y, ty, pos, after, g⟩).run P w = .ok (.value u) w := by
    intro b off u e1 e2 pos after g
    have : (loadVar t ⟨b, off, none⟩).run P w = .ok u w := by simp [loadVar, run_isAgg hm, e2]
    simp [execOp, e1, Instr.loadAt, Instr.sureAddr, this]
  have putD : ∀ {G1 : Gh} {σ1 : St} {av : AV} {u : Value}, isSl av = true → Inv G1 n D σ1 a w → VR w G1.R av u → OwnR G1 w (loadT d) av u → Inv G1 n D (σ1.put d av) (a.put d u) w := by
    intro G1 σ1 av u hsl h1 hv ho
    have hiv : isV av = true := by cases av <;> first | rfl | (cases hsl; done)
    have := h1.put (s' := σ1.s) (lp' := σ1.lp) d (fun i hi => by subst hi; simpa [dstOK] using hd) av u h1.good (Pres.refl G1 w) h1.store (fun _ hx => hx) (fun i t _ ht => (not_holdsLp hiv t ht).elim) (fun i t _ ⟨cs, hcs⟩ => (not_loc hiv cs hcs).elim)
      (fun _ _ _ _ => ⟨rfl, rfl, rfl⟩) (fun _ _ _ _ _ _ hcc => ⟨hcc, rfl, rfl⟩) (fun i hdi => by subst hdi; rw [ValS.of_isV hiv]; exact ⟨hv, ho⟩)
    cases d <;> exact this
  have takeC_eq : ∀ {off : Nat} {cs : List AV} {k : List AV → AV → Prop}, takeC off cs k → ∃ av, isSl av = true ∧ cs[off]? = some av ∧ k (setAt cs off [view av]) av := by
    intro off cs k hk
    unfold takeC at hk
    split at hk
    · rename_i ow sz m ds he; exact ⟨_, rfl, he, hk⟩
    · rename_i t m ds he; exact ⟨_, rfl, he, hk⟩
    · exact hk.elim
  have takeL_eq : ∀ {off : Nat} {cs : List AV} {k : List AV → AV → Prop}, takeL off cs k → ∃ av, isSl av = true ∧ cs[off]? = some av ∧ k (setAt cs off [view av]) av := by
    intro off cs k hk
    unfold takeL at hk
    split at hk
    · rename_i ow sz m ds he; exact ⟨_, rfl, he, hk⟩
    · exact hk.elim
  generalize σ.x x = xv at hw' hbx
  unfold loadDW at hw'
  split at hw' <;> try (exact hw'.elim)
  · rename_i b off
    have e1 := VR.inv_ref hbx
    cases hsb : σ.s b with
    | none => rw [hsb] at hw'; exact hw'.elim
    | some so =>
      cases so with
      | map es => rw [hsb] at hw'; exact hw'.elim
      | cells cs =>
      rw [hsb] at hw'
      obtain ⟨av, hsl, hcs, hk⟩ := takeC_eq hw'
      obtain ⟨q2, q3, c, et, q4, q5, q6⟩ := h.store b _ hsb
      have hlt : off < cs.length := (List.getElem?_eq_some_iff.1 hcs).1
      have hltc : off < c.size := by rw [q5.1]; exact hlt
      have hcell := Array.getElem?_eq_getElem hltc
      obtain ⟨hv, ho⟩ := q5.2 off _ _ hcs hcell
      obtain ⟨g1, g2, hne⟩ := retag_cell h b off (loadT d) hT
      have hst : StoreR (G.retag (.cell b off) (loadT d)) w (σ.s.set b (.cells (setAt cs off [view av]))) := by
        intro b' o hb'
        unfold Store.set at hb'
        by_cases hbg : b' = b
        · rw [if_pos hbg] at hb'; injection hb' with hb'; subst hb'; subst hbg
          exact ⟨by rw [hne b' (by rw [q2]; simp), q2], q3, c, et, q4, q5.take hcs, FlT.setAt q6 (by intro z hz; rw [List.mem_singleton] at hz; subst hz; exact isSl_flat hsl) off⟩
        · rw [if_neg hbg] at hb'
          obtain ⟨r1, r2, r3⟩ := h.store b' o hb'
          refine ⟨by rw [hne b' (by rw [r1]; simp), r1], r2, ?_⟩
          cases o with
          | cells cs' =>
            obtain ⟨c0, t0, r4, r5, r6⟩ := r3
            exact ⟨c0, t0, r4, r5.mono (fun _ _ hv => hv) (fun b'' j hb'' => ⟨by rw [hne b'' (by rw [hb'']; intro e; injection e with e _; exact hbg e), hb''], rfl, rfl⟩), r6⟩
          | map es => exact r3
      have h1 : Inv (G.retag (.cell b off) (loadT d)) n D { σ with s := σ.s.set b (.cells (setAt cs off [view av])) } a w :=
        ⟨g1, hst, h.size, fun k v hkv => ValS.frame (G := G) (G' := G.retag (.cell b off) (loadT d)) (w := w) (w' := w) (tmps := a.tmps) (tmps' := a.tmps) (fun _ _ hv => hv) (fun b' hb' => ⟨hne b' (by rcases hb' with ⟨j, hb'⟩ | hb' <;> rw [hb'] <;> simp), rfl, rfl⟩)
          (fun b' c' j hb' hc' => ⟨by rw [hne c' (by rw [hc']; intro e; injection e with e _; subst e; rw [q2] at hb'; cases hb'), hc'], rfl, rfl⟩) _ _ (fun d _ cs hcs => ⟨cs, hcs, rfl⟩) (h.slots k v hkv), h.dom, h.lps, h.def0⟩
      intro pos after g next Q hn
      exact wp_value (hrun b off _ e1 (by rw [cell_of_row w q4, hcell]) pos after g) (hn _ _ _ _ (putD hsl h1 hv ho.retag) g2 hk)
  · rename_i i off
    cases hl : look σ.e i <;> rw [hl] at hw' <;> first | exact hw'.elim | skip
    rename_i cs
    obtain ⟨hdi, hw'⟩ := hw'
    obtain ⟨av, hsl, hcs, hk⟩ := takeL_eq hw'
    obtain ⟨b, e1, e2⟩ := hbx
    have htm := e2 cs hl
    have hslot := h.slots i _ htm
    rw [hl] at hslot
    obtain ⟨b', c, et, p1, p2, p3, p4, p5, p6⟩ := hslot
    injection p1 with p1; injection p1 with p1; injection p1 with p1 _ _
    subst p1
    have hlt : off < cs.length := (List.getElem?_eq_some_iff.1 hcs).1
    have hltc : off < c.size := by rw [p5.1]; exact hlt
    have hcell := Array.getElem?_eq_getElem hltc
    obtain ⟨hv, ho⟩ := p5.2 off _ _ hcs hcell
    obtain ⟨g1, g2, hne⟩ := retag_cell h b off (loadT d) hT
    have hst : StoreR (G.retag (.cell b off) (loadT d)) w σ.s := h.store.mono h.good g2 (fun b' hb' => ⟨by rw [hne b' (by rw [hb']; simp), hb'], rfl, rfl⟩)
      (fun b' c' j hb' hc' => ⟨by rw [hne c' (by rw [hc']; intro e; injection e with e _; subst e; rw [p2] at hb'; cases hb'), hc'], rfl, rfl⟩)
    have h1 : Inv (G.retag (.cell b off) (loadT d)) n D (σ.put (some i) (.loc (setAt cs off [view av]))) a w := by
      refine ⟨g1, hst, h.size, fun k v hkv => ?_, fun k hk' => ?_, fun k d' hk' => ?_, h.def0⟩
      · by_cases hki : i = k
        · subst hki
          have : look (σ.put (some i) (.loc (setAt cs off [view av]))).e i = .loc (setAt cs off [view av]) := by simp [St.put, look_cons]
          rw [this]
          rw [htm] at hkv; injection hkv with hkv; subst hkv
          exact ⟨b, c, et, rfl, by rw [hne b (by rw [p2]; simp), p2], p3, p4, p5.take hcs, Fl.setAt p6 (by intro z hz; rw [List.mem_singleton] at hz; subst hz; exact isSl_flat hsl) off⟩
        · have : look (σ.put (some i) (.loc (setAt cs off [view av]))).e k = look σ.e k := by simp [St.put, look_cons, hki]
          rw [this]
          refine ValS.frame (G := G) (G' := G.retag (.cell b off) (loadT d)) (w := w) (w' := w) (tmps := a.tmps) (tmps' := a.tmps) (fun _ _ hv => hv) (fun b' hb' => ⟨hne b' (by rcases hb' with ⟨j, hb'⟩ | hb' <;> rw [hb'] <;> simp), rfl, rfl⟩)
            (fun b' c' j hb' hc' => ⟨by rw [hne c' (by rw [hc']; intro e; injection e with e _; subst e; rw [p2] at hb'; injection hb' with hb'; exact hki hb'), hc'], rfl, rfl⟩) _ _ (fun d' _ cs' hcs' => ?_) (h.slots k v hkv)
          by_cases hdi' : i = d'
          · subst hdi'; exact ⟨cs, hl, rfl⟩
          · simp only [St.put, look_cons, hdi', if_false] at hcs'
            exact ⟨cs', hcs', rfl⟩
      · by_cases hki : i = k
        · subst hki
          have := h.dom i hk'
          rw [hl] at this; cases this
        · simp only [St.put, look_cons, hki, if_false]; exact h.dom k hk'
      · by_cases hki : i = k
        · subst hki
          simp only [St.put, look_cons, if_true] at hk'
          exact hk'.elim
        · simp only [St.put, look_cons, hki, if_false] at hk'
          exact h.lps k d' hk'
    intro pos after g next Q hn
    exact wp_value (hrun b off _ e1 (by rw [cell_of_row w p4, hcell]) pos after g) (hn _ _ _ _ (putD hsl h1 hv ho.retag) g2 hk)
theorem eff_loadE (h : Inv G n D σ a w) {op : Op} {ty : TypeId} {off : Nat} {j x : IX} {d : Option Nat} {K : St → Prop} (hd : dstOK n d = true) (hc : chkOp P op ty (.loadE off j x) = true) (hw : iwp P (.loadE off j x) d σ K) : Eff P G n D w a op ty d K := by
 have hc' : chkOp P op ty (.loadD x) = true := by
  cases op <;> first | exact hc | (cases hc; done)
 exact eff_loadD h hd hc' hw.2
theorem eff_eqN (h : Inv G n D σ a w) {op : Op} {ty : TypeId} {ne : Bool} {x : IX} {d : Option Nat} {K : St → Prop} (hd : dstOK n d = true) (hc : chkOp P op ty (.eqN ne x) = true) (hw : iwp P (.eqN ne x) d σ K) : Eff P G n D w a op ty d K := by
  cases op <;> first | (simp [chkOp] at hc; done) | skip
  rename_i b t u v yt
  simp only [chkOp, Bool.and_eq_true, decide_eq_true_eq] at hc
  obtain ⟨⟨⟨rfl, hx⟩, hy⟩, ht⟩ := hc
  cases hel : elemOfSl P t with
  | none => rw [hel] at ht; cases ht
  | some e =>
  have ht := elemOfSl_eq hel
  have e2 : a.eval v = .slice none 0 0 := by
    split at hy
    · rfl
    · cases hy
  have hbx := XR.of_inv h hx
  have hw' : eqNW ne σ d K (σ.x x) := hw
  generalize σ.x x = xv at hw' hbx
  have some_ : ∀ (ad : Addr) (l c : Nat), a.eval u = .slice (some ad) l c → K (σ.put d (.bool ne)) → Eff P G n D w a (.binOp (if ne = true then .neq else .eql) t u v yt) ty d K := by
    intro ad l c e1 hk pos after g next Q hn
    have hr : (Op.equal t (.slice (some ad) l c) (.slice none 0 0)).run P w = .ok false w := run_equalIn_nilsl 9999 ht ad l c
    refine wp_value (v := .bool ne) ?_ (hn G _ _ _ (h.putV hd rfl (.bool _) rfl) (Pres.refl G w) hk)
    cases ne <;> simp [execOp, e1, e2, eqGuard, binOp, hr]
  have none_ : a.eval u = .slice none 0 0 → K (σ.put d (.bool !ne)) → Eff P G n D w a (.binOp (if ne = true then .neq else .eql) t u v yt) ty d K := by
    intro e1 hk pos after g next Q hn
    have key : ∀ q : Nat, (Op.equalIn (q + 1) t (.slice none 0 0) (.slice none 0 0)).run P w = .ok true w := fun q => by simp [Op.equalIn, run_underlying ht]
    have hr : (Op.equal t (.slice none 0 0) (.slice none 0 0)).run P w = .ok true w := key 9999
    refine wp_value (v := .bool !ne) ?_ (hn G _ _ _ (h.putV hd rfl (.bool _) rfl) (Pres.refl G w) hk)
    cases ne <;> simp [execOp, e1, e2, eqGuard, binOp, hr]
  unfold eqNW at hw'
  split at hw' <;> try (exact hw'.elim)
  · rename_i ow sz m cs
    rcases VR.inv_sl hbx with ⟨(e1 | ⟨_, _, _, e1⟩), rfl, _⟩ | ⟨b, off, cap, e1, _⟩
    · exact none_ e1 (hw' _ fun _ => rfl)
    · exact some_ _ _ _ e1 (hw' _ fun hh => by cases ne <;> cases hh)
    · exact some_ _ _ _ e1 (hw' _ fun hh => by cases ne <;> cases hh)
  · rename_i b off m cap
    rcases VR.inv_arr' hbx with e1 | ⟨_, rfl, e1⟩
    · exact some_ _ _ _ e1 (hw' _ fun hh => by cases ne <;> cases hh)
    · exact none_ e1 (hw' _ fun _ => rfl)
theorem eff_ovl (h : Inv G n D σ a w) {op : Op} {ty : TypeId} {f : Nat} {x y : IX} {d : Option Nat} {K : St → Prop} (hd : dstOK n d = true) (hc : chkOp P op ty (.ovl f x y) = true) (hw : iwp P (.ovl f x y) d σ K) : Eff P G n D w a op ty d K := by
  cases op <;> first | (simp [chkOp] at hc; done) | skip
  rename_i c
  obtain ⟨callee, ys, ats⟩ := c
  simp only [chkOp] at hc
  split at hc <;> try (cases hc; done)
  rename_i g
  simp only [Bool.and_eq_true, beq_iff_eq] at hc
  obtain ⟨rfl, hxs⟩ := hc
  obtain ⟨ys⟩ := ys
  have hys : ∃ u v, ys = [u, v] ∧ chkX u x = true ∧ chkX v y = true := by
    match ys, hxs with
    | [u, v], hxs =>
      simp only [chkXs, Bool.and_eq_true] at hxs
      exact ⟨u, v, rfl, hxs.1, hxs.2.1⟩
    | [], hxs => cases hxs
    | [_], hxs => simp [chkXs] at hxs
    | _ :: _ :: _ :: _, hxs => simp [chkXs] at hxs
  obtain ⟨u, v, rfl, hu, hv⟩ := hys
  have hbx := XR.of_inv h hu
  have hby := XR.of_inv h hv
  have hw' : ovlW P f σ d K (σ.x x) (σ.x y) := hw
  generalize σ.x x = xv at hw' hbx
  generalize σ.x y = yv at hw' hby
  unfold ovlW at hw'
  split at hw' <;> try (exact hw'.elim)
  rename_i ow sz l c0 cs0 b' o' l' cp'
  obtain ⟨hov, hs2, hk⟩ := hw'
  rcases VR.inv_sl hbx with ⟨_, h0, _⟩ | ⟨b, o, cp, e1, hl, hR, hcap, hat⟩
  · cases h0
  have e2 := VR.inv_arr hby (Nat.succ_pos _)
  unfold cellsIn at hs2
  split at hs2 <;> try (exact hs2.elim)
  rename_i hs2'
  obtain ⟨q0, q1', x2, t2, q1, q2, _⟩ := h.store b' _ hs2'
  obtain ⟨uu, hcell, _, _⟩ := hat
  have hc0 := hcell 0 c0 rfl
  have hblk : ∃ x1 t1 f1, w.heap[b]? = some (.cells x1 t1 f1) ∧ x1.size ≠ 0 := by
    unfold World.cell? at hc0
    split at hc0
    · rename_i x1 t1 f1 hh
      refine ⟨x1, t1, f1, hh, fun h0 => ?_⟩
      have hlt := (Array.getElem?_eq_some_iff.1 hc0).1
      omega
    · cases hc0
  obtain ⟨x1, t1, f1, p1, p2⟩ := hblk
  have hbb : b ≠ b' := fun e => by
    subst e
    rw [q1'] at hR
    simp only [List.length_cons] at hR
    omega
  obtain ⟨w', hr, r1, r2, r3, r4, r5⟩ := hov w b b' o (l + 1) cp o' l' (cp' + 1) t1 t2 x1 x2 f1 hbb p1 p2 q1 (by rw [q2.1]; simp)
  have hpres : Pres G w G w' := ⟨r2, r3, r4, r5, by rw [r1]; exact Nat.le_refl _, fun _ _ => Nat.le_refl _, fun b k _ _ => cell_heap r1 _, fun b _ _ => by rw [r1], fun b _ hb => ⟨hb, rfl⟩, fun b _ hb => ⟨hb, rfl⟩⟩
  have hg' : GoodW G w' := ⟨fun b hb => h.good.newO b (by rw [r1] at hb; exact hb), fun b hb => h.good.newR b (by rw [r1] at hb; exact hb)⟩
  have hinv : Inv G n D (σ.put d (.bool false)) (a.put d (.bool false)) w' := by
    have := h.put (s' := σ.s) (lp' := σ.lp) d (fun i hi => by subst hi; simpa [dstOK] using hd) (.bool false) (.bool false) hg' hpres (h.store.mono h.good hpres (fun b hb => ⟨hb, rfl, by rw [r1]⟩) (fun _ c j _ hc => ⟨hc, rfl, by rw [r1]⟩)) (fun _ hx => hx) (fun i t _ ht => ht.elim) (fun i t _ ⟨cs, hcs⟩ => by cases hcs)
      (fun _ _ _ _ => ⟨rfl, rfl, by rw [r1]⟩) (fun _ _ _ _ _ _ hcc => ⟨hcc, rfl, by rw [r1]⟩) (fun i hdi => ⟨.bool _, trivial⟩)
    cases d <;> exact this
  intro pos after gd next Q hn
  refine wp_value (w' := w') (v := .bool false) ?_ (hn G _ _ _ hinv hpres hk)
  simp [execOp, resolve, Act.eval, Deferred.ofValue, invoke]
  simp [Act.eval] at e1 e2
  rw [e1, e2, hr]
theorem views_append' (a b : List AV) : views (a ++ b) = views a ++ views b := by simp [views]
theorem eff_callU (h : Inv G n D σ a w) {op : Op} {ty : TypeId} {f i : Nat} {args : List IX} {d : Option Nat} {K : St → Prop} (hd : dstOK n d = true) (hc : chkOp P op ty (.callU f i args) = true) (hw : iwp P (.callU f i args) d σ K) : Eff P G n D w a op ty d K := by
  have hcc : chkOp P op ty (.call f args) = true := by
    cases op <;> first | (simp [chkOp] at hc; done) | skip
    simp only [chkOp, Bool.and_eq_true] at hc
    exact hc.2
  have hw' : thawW i σ (fun τ => callW P f τ d K (argsV (xg true τ) args)) (look σ.e i) := hw
  have later : ∀ (G1 : Gh) (τ : St), Inv G1 n D τ a w → Pres G w G1 w → callW P f τ d K (argsV (xg true τ) args) → Eff P G n D w a op ty d K := by
    intro G1 τ h1 hp hk pos after g next Q hn
    exact eff_call h1 hd hcc hk pos after g next Q fun G' σ' a' w' k1 k2 k3 => hn G' σ' a' w' k1 (hp.trans k2) k3
  cases hl : look σ.e i <;> rw [hl] at hw' <;> first | exact hw'.elim | skip
  rename_i sz m cs
  obtain ⟨hw1, hw2⟩ := hw'
  have hin : i < n := h.lt_of (by rw [hl]; simp)
  have hlt : i < a.tmps.size := by rw [h.size]; exact hin
  have hs := h.slots i _ (Array.getElem?_eq_getElem hlt)
  rw [hl] at hs
  rcases hs with ⟨h1, h2, h3⟩ | ⟨b, cap, c, t, sp, h1, h2, h3, h4, h5, h6, h7, h8, h9, h10, h11, h12⟩
  · subst h1; subst h2
    rcases h3 with h3 | ⟨b, off, h3⟩
    · refine later G _ (h.reabs i hin (.arr 0 0 0 0) (fun t ht => ht) (fun cs e => by cases e) fun v hv => ?_) (Pres.refl G w) (hw2 rfl 0 0)
      rw [Array.getElem?_eq_getElem hlt] at hv; injection hv with hv; subst hv
      exact ⟨by rw [h3]; exact .arr0 _ _, trivial⟩
    · refine later G _ (h.reabs i hin (.arr b off 0 0) (fun t ht => ht) (fun cs e => by cases e) fun v hv => ?_) (Pres.refl G w) (hw2 rfl b off)
      rw [Array.getElem?_eq_getElem hlt] at hv; injection hv with hv; subst hv
      exact ⟨by rw [h3]; exact .arr _ _ _ _, trivial⟩
  · have hnone : σ.s b = none := by
      cases hsb : σ.s b with
      | none => rfl
      | some o => have := (h.store b o hsb).1; rw [h4] at this; cases this
    have hvsp : views sp = sp := by
      have : views cs ++ views sp = cs ++ sp := by rw [← views_append']; exact h12
      exact (List.append_inj this (by simp [views])).2
    let G1 : Gh := G.upd b .sh 0
    have same : ∀ b', b' ≠ b → G1.O b' = G.O b' ∧ G1.R b' = G.R b' ∧ w.heap[b']? = w.heap[b']? := fun b' hb' => ⟨by simp [G1, hb'], by simp [G1, hb'], rfl⟩
    have hRe : ∀ b', G1.R b' = G.R b' := fun b' => by
      by_cases hb : b' = b
      · subst hb; simp [G1, h5]
      · simp [G1, hb]
    have hpres : Pres G w G1 w := ⟨rfl, rfl, rfl, Nat.le_refl _, Nat.le_refl _, fun b' _ => by rw [hRe]; exact Nat.le_refl _, fun _ _ _ _ => rfl, fun _ _ _ => rfl, fun b' _ hb' => by
        have : b' ≠ b := fun e => by subst e; rw [h4] at hb'; cases hb'
        exact ⟨(same b' this).1.trans hb', (same b' this).2.1⟩, fun b' _ hb' => by
        have : b' ≠ b := fun e => by subst e; rw [h4] at hb'; cases hb'
        exact ⟨(same b' this).1.trans hb', (same b' this).2.1⟩⟩
    have hbl : b < w.heap.size := h.good.lt (by rw [h4]; simp)
    have hgood : GoodW G1 w := ⟨fun b' hb' => by
        have : b' ≠ b := by omega
        rw [(same b' this).1, h.good.newO b' hb'], fun b' hb' => by rw [hRe, h.good.newR b' hb']⟩
    have hst : StoreR G1 w (σ.s.set b (.cells (cs ++ sp))) := by
      intro b' o hb'
      unfold Store.set at hb'
      by_cases hbg : b' = b
      · rw [if_pos hbg] at hb'; injection hb' with hb'; subst hb'; subst hbg
        refine ⟨by simp [G1], by simp [G1], c, t, h6, ⟨by rw [h7, h9], fun j x y hx hy => ⟨hpres.vr h.good (h10 j x y hx hy), ?_⟩⟩, h11.tag _⟩
        rw [← h12, views_get] at hx
        cases hz : (cs ++ sp)[j]? with
        | none => rw [hz] at hx; cases hx
        | some x' => rw [hz] at hx; simp at hx; rw [← hx]; exact OwnR.view ..
      · rw [if_neg hbg] at hb'
        obtain ⟨r1, r2, r3⟩ := h.store b' o hb'
        refine ⟨(same b' hbg).1.trans r1, (same b' hbg).2.1.trans r2, ?_⟩
        cases o with
        | cells cs' =>
          obtain ⟨c0, t0, r4, r5, r6⟩ := r3
          exact ⟨c0, t0, r4, r5.mono (fun _ _ hv => hpres.vr h.good hv) (fun b'' j hb'' => by
            obtain ⟨x1, x2, x3⟩ := same b'' (fun e => by subst e; rw [h4] at hb''; cases hb'')
            exact ⟨x1.trans hb'', x2, x3⟩), r6⟩
        | map es =>
          obtain ⟨ents, clock, r4, r5, r6⟩ := r3
          exact ⟨ents, clock, r4, r5, fun j x y hx hy => ⟨hpres.vr h.good (r6 j x y hx hy).1, hpres.vr h.good (r6 j x y hx hy).2⟩⟩
    have h1' : Inv G1 n D ({ σ with s := σ.s.set b (.cells (cs ++ sp)) }.put (some i) (.arr b 0 m cap)) a w := by
      have ha : a.put (some i) a.tmps[i] = a := by
        have : a.tmps.setIfInBounds i a.tmps[i] = a.tmps := by
          rw [Array.setIfInBounds, dif_pos hlt, Array.set_getElem_self]
        simp [Act.put, this]
      have := h.put (s' := σ.s.set b (.cells (cs ++ sp))) (lp' := σ.lp) (some i) (fun j hj => by injection hj with hj; subst hj; exact hin) (.arr b 0 m cap) a.tmps[i] hgood hpres hst (fun _ hx => hx) (fun j t _ ht => ht.elim) (fun j t _ ⟨cs, hcs⟩ => by cases hcs)
        (fun j b' hj hb' => same b' (fun e => by
          subst e
          rcases hb' with ⟨q, hb'⟩ | hb' <;> rw [h4] at hb'
          · injection hb' with hb' _; exact hj (by rw [hb'])
          · cases hb'))
        (fun j b' c' q _ _ hc' => by
          obtain ⟨x1, x2, x3⟩ := same c' (fun e => by subst e; rw [h4] at hc'; cases hc')
          exact ⟨x1.trans hc', x2, x3⟩)
        (fun j hj => by
          injection hj with hj; subst hj
          exact ⟨by rw [h3]; exact .arr _ _ _ _, trivial⟩)
      rw [ha] at this
      exact this
    exact later G1 _ h1' hpres (hw1 b cap sp hnone h1 h2 h9 h11 hvsp)
theorem nilC_vr {R : Nat → Nat} {sz : Nat} {c : AV} {u : Value} (h : VR w R c u) : VR w R (nilC sz c) u := by
  unfold nilC
  split
  · rename_i b
    rcases VR.inv_arr' h with e | ⟨_, _, e⟩
    · rw [e]; exact .sl true sz 0 [] b 0 0 (fun _ => undef) Fl.nil (by simp) (by simp) (Nat.le_refl _) (fun j c hj => by simp at hj) (fun j c hj => by simp at hj)
    · rw [e]; exact .slnil _ _
  · exact h
theorem nilC_own {R : Nat → Nat} {o : Owner} {sz : Nat} {c : AV} {u : Value} (h : VR w R c u) : OwnR G w o (nilC sz (view c)) u := by
  unfold nilC
  split
  · rename_i b hb
    have : c = .arr b 0 0 0 := by cases c <;> simp [view] at hb <;> simp [hb]
    subst this
    intro base m cap hv hc
    rcases VR.inv_arr' h with e | ⟨_, _, e⟩ <;> rw [e] at hv <;> injection hv with _ e2 e3 <;> omega
  · exact OwnR.view ..
theorem nilC_flat {sz : Nat} {c : AV} (h : flatV c = true) : flatV (nilC sz c) = true := by
  unfold nilC
  split
  · rfl
  · exact h
theorem stCellsN_fl {sz : Nat} {av : AV} {v : Value} (hi : isV av = true) (h : VR w G.R av v) : Fl (stCellsN sz av) ∧ v.cells.toList.length = (stCellsN sz av).length ∧ (∀ (j : Nat) (x : AV) (y : Value), (stCellsN sz av)[j]? = some x → v.cells.toList[j]? = some y → VR w G.R x y) ∧
    (∀ y ∈ v.cells.toList, y.oneCell' = true) := by
  obtain ⟨h1, h2, h3, h4⟩ := stCells_fl hi h
  cases av with
  | agg cs =>
    simp only [stCells] at h1 h2 h3
    refine ⟨fun c hc => ?_, by simp only [stCellsN, List.length_map]; exact h2, fun j x y hx hy => ?_, h4⟩
    · simp only [stCellsN, List.mem_map] at hc
      obtain ⟨c', hc', rfl⟩ := hc
      exact nilC_flat (h1 c' hc')
    · simp only [stCellsN, List.getElem?_map] at hx
      cases hz : (views cs)[j]? with
      | none => rw [hz] at hx; cases hx
      | some x' => rw [hz] at hx; simp at hx; rw [← hx]; exact nilC_vr (h3 j x' y hz hy)
  | _ => exact ⟨h1, h2, h3, h4⟩
theorem eff_storeN (h : Inv G n D σ a w) {op : Op} {ty : TypeId} {sz m : Nat} {p v : IX} {d : Option Nat} {K : St → Prop} (hd : dstOK n d = true) (hc : chkOp P op ty (.storeN sz m p v) = true) (hw : iwp P (.storeN sz m p v) d σ K) : Eff P G n D w a op ty d K := by
  cases op <;> first | (simp [chkOp] at hc; done) | skip
  rename_i t q u
  simp only [chkOp, Bool.and_eq_true] at hc
  obtain ⟨⟨hs, hq⟩, hu⟩ := hc
  obtain ⟨hi, hm, hk⟩ := hw
  have hvr : VR w G.R (σ.x v) (a.eval u) := by
    have := XR.of_inv h hu
    generalize σ.x v = av at hi this
    cases av <;> first | exact this | (simp [isV] at hi)
  -- the target
  have target : ∃ g off old, a.eval q = .pointer (some ⟨g, off, none⟩) ∧
      ((∃ i, look σ.e i = .loc old ∧ a.tmps[i]? = some (.pointer (some ⟨g, 0, none⟩)) ∧ wrSt (σ.drain v) (σ.x p) p (stCellsN sz (σ.x v)) = wrL (σ.drain v) i (wrCells off (stCellsN sz (σ.x v)) old)) ∨
       (σ.s g = some (.cells old) ∧ wrSt (σ.drain v) (σ.x p) p (stCellsN sz (σ.x v)) = wrS (σ.drain v) g (wrCells off (stCellsN sz (σ.x v)) old))) := by
    have hb := XR.of_inv h hq
    cases hp : σ.x p with
    | loc old =>
      rw [hp] at hb
      obtain ⟨i, b, c, t', e1, e2, e3, e4, _⟩ := hb
      refine ⟨b, 0, old, e4, .inl ⟨i, e2, by rw [e3, e4], ?_⟩⟩
      subst e1; rfl
    | lp d0 off =>
      rw [hp] at hb hk
      obtain ⟨b, e1, e2⟩ := hb
      have hk' : stK d K (wrLoc (σ.drain v) d0 off (stCellsN sz (σ.x v)) (look (σ.drain v).e d0)) := hk
      cases hl : look (σ.drain v).e d0 <;> rw [hl] at hk' <;> first | exact hk'.elim | skip
      rename_i old
      have hl' := look_drain hi hl
      exact ⟨b, off, old, e1, .inl ⟨d0, hl', e2 old hl', by show wrLoc _ _ _ _ (look (σ.drain v).e d0) = _; rw [hl]; rfl⟩⟩
    | ref b off =>
      rw [hp] at hb hk
      have e1 := VR.inv_ref hb
      have hk' : stK d K (wrSO (σ.drain v) b off (stCellsN sz (σ.x v)) ((σ.drain v).s b)) := hk
      have hs' : (σ.drain v).s = σ.s := by cases v <;> rfl
      rw [hs'] at hk'
      cases hl : σ.s b with
      | none => rw [hl] at hk'; exact hk'.elim
      | some so =>
        cases so with
        | map es => rw [hl] at hk'; exact hk'.elim
        | cells old => exact ⟨b, off, old, e1, .inr ⟨hl, by show wrSO _ _ _ _ ((σ.drain v).s b) = _; rw [hs', hl]; rfl⟩⟩
    | _ => rw [hp] at hk; exact hk.elim
  obtain ⟨g, off, old, e1, htar⟩ := target
  obtain ⟨G1, h1, hp1, hv1, hown1, hR1, hsh, hloc, hcell⟩ := h.drain hu hi (.cell g off) (by simp) (by simp)
  obtain ⟨hfl, hlen, hvals, hone⟩ := stCellsN_fl (sz := sz) hi hv1
  have hown' : ∀ (j : Nat) (x : AV) (y : Value), (stCellsN sz (σ.x v))[j]? = some x → (a.eval u).cells.toList[j]? = some y → VR w G1.R x y ∧ OwnR G1 w (.cell g (off + j)) x y := by
    intro j x y hx hy
    refine ⟨hvals j x y hx hy, ?_⟩
    cases hv : σ.x v with
    | agg cs =>
      rw [hv] at hx hv1
      obtain ⟨vs, e, hl, hr, _⟩ := VR.inv_agg hv1
      simp only [stCellsN, List.getElem?_map] at hx
      rw [views_get] at hx
      cases hc0 : cs[j]? with
      | none => rw [hc0] at hx; cases hx
      | some c0 =>
        rw [hc0] at hx; simp at hx; rw [← hx]
        rw [e] at hy
        exact nilC_own (hr j c0 y hc0 (by simpa [Value.cells] using hy))
    | sl o s l cs =>
      rw [hv] at hx hown1 hv1
      cases j with
      | succ j => simp [stCellsN] at hx
      | zero =>
      simp [stCellsN] at hx
      subst hx
      have : (a.eval u).cells = #[a.eval u] := by rcases VR.inv_sl hv1 with ⟨(e | ⟨_, _, _, e⟩), _⟩ | ⟨_, _, _, e, _⟩ <;> rw [e] <;> rfl
      rw [this] at hy
      simp at hy
      subst hy
      exact hown1
    | bb t l cs =>
      rw [hv] at hx hown1 hv1
      cases j with
      | succ j => simp [stCellsN] at hx
      | zero =>
      simp [stCellsN] at hx
      subst hx
      have hv1' : VR w G1.R (.sl true 1 l cs) (a.eval u) := by cases hv1; assumption
      have : (a.eval u).cells = #[a.eval u] := by rcases VR.inv_sl hv1' with ⟨(e | ⟨_, _, _, e⟩), _⟩ | ⟨_, _, _, e, _⟩ <;> rw [e] <;> rfl
      rw [this] at hy
      simp at hy
      subst hy
      exact hown1
    | _ =>
      rw [hv] at hx
      cases j with
      | succ j => simp [stCellsN] at hx
      | zero => simp [stCellsN] at hx; subst hx; trivial
  have hlen' : (a.eval u).cells.toList.length = m := by rw [hlen, hm]
  have hput : ∀ (τ : St) (w' : World), Inv G1 n D τ a w' → Inv G1 n D (τ.put d (.tup [])) (a.put d undef) w' := by
    intro τ w' hτ
    have := hτ.put (s' := τ.s) (lp' := τ.lp) d (fun i hi => by subst hi; simpa [dstOK] using hd) (.tup []) undef hτ.good (Pres.refl G1 w') hτ.store (fun _ hx => hx) (fun i t _ ht => ht.elim) (fun i t _ ⟨cs, hcs⟩ => by cases hcs)
      (fun _ _ _ _ => ⟨rfl, rfl, rfl⟩) (fun _ _ _ _ _ _ hcc => ⟨hcc, rfl, rfl⟩) (fun i hdi => ⟨#[], rfl, rfl, fun j x y hx => by simp at hx⟩)
    cases d <;> exact this
  rcases htar with ⟨i, e2, e3, e4⟩ | ⟨e2, e4⟩
  · -- a local block
    rw [e4] at hk
    cases hwr : wrCells off (stCellsN sz (σ.x v)) old with
    | none => rw [hwr] at hk; exact hk.elim
    | some cs' =>
      rw [hwr] at hk
      obtain ⟨hfit, rfl⟩ := wrCells_eq hwr
      have e2' : look (σ.drain v).e i = .loc old := look_drain' hi e2
      have hslot := h1.slots i _ e3
      rw [e2'] at hslot
      obtain ⟨b, c, t', q1, q2, q3, q4, q5, q6⟩ := hslot
      injection q1 with q1; injection q1 with q1; injection q1 with q1 _ _
      subst q1
      have hne : ∀ j, G1.O g ≠ .cell g j := fun j => by rw [q2]; simp
      have hfit' : off + (a.eval u).cells.toList.length ≤ c.size := by rw [hlen, q5.1]; exact hfit
      have hrun := run_storeVar (P := P) hs q4 (v := a.eval u) (by simpa using hlen') (by rw [← hlen']; exact hfit') hone
      have hpres : Pres G1 w G1 (w.setRow g (laid c off (a.eval u).cells.toList)) := Pres.write q4 (by rw [q2]; simp) (fun k hk => by rw [q3] at hk; omega) (Nat.le_refl _) (fun _ _ => ⟨rfl, rfl⟩)
      have hcells := CellsR.lay q4 hpres h1.good q5 hlen hfit hne hown'
      obtain ⟨h2, _⟩ := h1.written (σ' := (σ.drain v).put (some i) (.loc (setAt old off (stCellsN sz (σ.x v))))) q4 (.inl ⟨i, q2⟩) q3 rfl
        (h1.store.mono h1.good hpres (fun b hb => ⟨hb, rfl, setRow_other w g b _ (fun e => by subst e; rw [q2] at hb; cases hb)⟩) (fun b c j _ hc => ⟨hc, rfl, setRow_other w g c _ (fun e => by subst e; rw [q2] at hc; cases hc)⟩))
        (fun k => by
          by_cases hki : i = k
          · subst hki
            exact .inr ⟨q2, e3, old, _, e2', by simp [St.put, look_cons], hcells, Fl.setAt q6 hfl off⟩
          · refine .inl ⟨by simp [St.put, look_cons, hki], ?_⟩
            rw [q2]; intro e; injection e with e; exact hki e)
      intro pos after gd next Q hn
      exact wp_skip' (w' := w.setRow g (laid c off (a.eval u).cells.toList)) (by simp [execOp, e1, Instr.storeAt, Instr.sureAddr, hrun]) (hn G1 _ _ _ (hput _ _ h2) (hp1.trans hpres) hk)
  · -- a shared block
    rw [e4] at hk
    cases hwr : wrCells off (stCellsN sz (σ.x v)) old with
    | none => rw [hwr] at hk; exact hk.elim
    | some cs' =>
      rw [hwr] at hk
      obtain ⟨hfit, rfl⟩ := wrCells_eq hwr
      have hs' : (σ.drain v).s = σ.s := by cases v <;> rfl
      obtain ⟨q2, q3, c, t', q4, q5, q6⟩ := h1.store g (.cells old) (by rw [hs']; exact e2)
      have hne : ∀ j, G1.O g ≠ .cell g j := fun j => by rw [q2]; simp
      have hfit' : off + (a.eval u).cells.toList.length ≤ c.size := by rw [hlen, q5.1]; exact hfit
      have hrun := run_storeVar (P := P) hs q4 (v := a.eval u) (by simpa using hlen') (by rw [← hlen']; exact hfit') hone
      have hpres : Pres G1 w G1 (w.setRow g (laid c off (a.eval u).cells.toList)) := Pres.write q4 (by rw [q2]; simp) (fun k hk => by rw [q3] at hk; omega) (Nat.le_refl _) (fun _ _ => ⟨rfl, rfl⟩)
      have hcells := CellsR.lay q4 hpres h1.good q5 hlen hfit hne hown'
      have hst : StoreR G1 (w.setRow g (laid c off (a.eval u).cells.toList)) ((σ.drain v).s.set g (.cells (setAt old off (stCellsN sz (σ.x v))))) := by
        intro b o hb
        unfold Store.set at hb
        by_cases hbg : b = g
        · rw [if_pos hbg] at hb; injection hb with hb; subst hb; subst hbg
          exact ⟨q2, q3, _, t', setRow_heap w b c _ t' _ q4, hcells, FlT.setAt q6 hfl off⟩
        · rw [if_neg hbg] at hb
          obtain ⟨r1, r2, r3⟩ := h1.store b o hb
          refine ⟨r1, r2, ?_⟩
          have hbk := setRow_other w g b (laid c off (a.eval u).cells.toList) hbg
          cases o with
          | cells cs =>
            obtain ⟨c0, t0, r4, r5, r6⟩ := r3
            exact ⟨c0, t0, hbk.trans r4, r5.mono (fun _ _ hv => hpres.vr h1.good hv) (fun b' j hb' => ⟨hb', rfl, setRow_other w g b' _ (fun e => by subst e; rw [q2] at hb'; cases hb')⟩), r6⟩
          | map es =>
            obtain ⟨ents, clock, r4, r5, r6⟩ := r3
            exact ⟨ents, clock, hbk.trans r4, r5, fun j x y hx hy => ⟨hpres.vr h1.good (r6 j x y hx hy).1, hpres.vr h1.good (r6 j x y hx hy).2⟩⟩
      obtain ⟨h2, _⟩ := h1.written (σ' := { σ.drain v with s := (σ.drain v).s.set g (.cells (setAt old off (stCellsN sz (σ.x v)))) }) q4 (.inr q2) q3 rfl hst
        (fun k => .inl ⟨rfl, by rw [q2]; simp⟩)
      intro pos after gd next Q hn
      exact wp_skip' (w' := w.setRow g (laid c off (a.eval u).cells.toList)) (by simp [execOp, e1, Instr.storeAt, Instr.sureAddr, hrun]) (hn G1 _ _ _ (hput _ _ h2) (hp1.trans hpres) hk)
theorem eff_boxN (h : Inv G n D σ a w) {op : Op} {ty : TypeId} {sz m : Nat} {x : IX} {d : Option Nat} {K : St → Prop} (hd : dstOK n d = true) (hc : chkOp P op ty (.boxN sz m x) = true) (hw : iwp P (.boxN sz m x) d σ K) : Eff P G n D w a op ty d K := by
 cases op <;> first | (simp [chkOp] at hc; done) | skip
 rename_i t y
 simp only [chkOp, Bool.and_eq_true] at hc
 obtain ⟨hi, _, hk⟩ := hw
 have hvr : VR w G.R (σ.x x) (a.eval y) := by
  have := XR.of_inv h hc.2
  generalize σ.x x = av at hi this
  cases av <;> first | exact this | (simp [isV] at hi)
 have hrow := cellsOf_row hi hvr
 have hcs : ∀ (G' : Gh) (w' : World) (o : Nat → Owner), Pres G w G' w' → CellsR G' w' o ((views (cellsOf (σ.x x))).map (nilC sz)) (a.eval y).cells := by
  intro G' w' o hp
  refine ⟨by simp only [List.length_map, views]; exact hrow.1, fun j c u hcj hu => ?_⟩
  simp only [List.getElem?_map] at hcj
  rw [views_get] at hcj
  cases hz : (cellsOf (σ.x x))[j]? with
  | none => rw [hz] at hcj; cases hcj
  | some c0 =>
   rw [hz] at hcj; simp at hcj
   have h1 := hp.vr h.good (hrow.2.1 j c0 u hz hu)
   rw [← hcj]
   exact ⟨nilC_vr h1.view, nilC_own h1⟩
 have hfl : Fl ((views (cellsOf (σ.x x))).map (nilC sz)) := by
  intro c hc'
  simp only [List.mem_map] at hc'
  obtain ⟨c', h1, rfl⟩ := hc'
  exact nilC_flat (hrow.2.2.views c' h1)
 intro pos after g next Q hn
 obtain ⟨G', h1, h2⟩ := h.newS hd (t := t) (.inl ⟨rfl, rfl⟩) hcs hfl
 refine wp_value ?_ (hn G' _ _ _ h1 h2 (hk w.heap.size (h.store.get_none h.good)))
 simp [execOp, Instr.box, newVar, newRow]
end
end Go.AB
end

section
namespace Go.AB
open Go
section
variable {P : Program} {G G' : Gh} {n : Nat} {D : List Deferred} {σ : St} {a : Act} {w w' : World}
theorem VR.inv_bb0 {R : Nat → Nat} {t : Nat} {cs : List AV} {v : Value} (h : VR w R (.bb t 0 cs) v) : v = .slice none 0 0 := by cases h with | bb _ _ _ _ h h0 => exact h0 rfl
theorem VR.inv_bb {R : Nat → Nat} {t n : Nat} {cs : List AV} {v : Value} (h : VR w R (.bb t n cs) v) : VR w R (.sl true 1 n cs) v := by cases h; assumption
theorem Inv.newBb (h : Inv G n D σ a w) {d : Option Nat} (hd : dstOK n d = true) {m cap : Nat} {cs : List AV} {c : Array Value} {t : TypeId} {ob : Owner} (hm0 : 0 < m) (hob : ∀ i, d = some i → ob = .slot i 0) (hobn : d = none → ob = .none)
    (hl : cs.length = m * 1) (hcap : m ≤ cap) (hsz : c.size = cap * 1) (hfl : Fl cs)
    (hcs : ∀ (j : Nat) (x : AV), cs[j]? = some x → ∃ y, c[j]? = some y ∧ VR w G.R x y) (fz : Nat × Nat) (hfz : (∀ k, k < c.size → ¬ (fz.1 ≤ k ∧ k < fz.2)) ∧ fz.1 ≤ fz.2) (hz0 : fz = (0, 0) ∨ (0 < m ∧ ∃ x, c[0]? = some (.int .u8 x))) (hsp : ∀ (k : Nat) (y : Value), m * 1 ≤ k → c[k]? = some y → y.oneCell' = true) :
    ∃ G', Inv G' n D (σ.put d (.bb t m cs)) (a.put d (.slice (some ⟨w.heap.size, 0, none⟩) m cap)) (w.alloc (.cells c t fz)) ∧ Pres G w G' (w.alloc (.cells c t fz)) := by
  have hp := (alloc_facts h.good (.cells c t fz) ob cs.length).2.1
  obtain ⟨h1, h2⟩ := h.alloc (.cells c t fz) ob cs.length d hd (.bb t m cs) (.slice (some ⟨w.heap.size, 0, none⟩) m cap) σ.lp (alloc_store h.store h.good _ ob cs.length) (fun _ hx => hx) (fun i t' _ ht => ht.elim)
    (fun i t' _ ⟨cs', hcs'⟩ => by cases hcs')
    (fun i hi => by
      refine ⟨?_, ?_⟩
      · refine .bb t m cs _ (.sl true 1 m cs w.heap.size 0 cap (fun j => c.getD j undef) hfl hl (by simp) hcap (fun j x hj => ?_) (fun j x hj => ?_)) (fun e => by omega)
        · obtain ⟨y, hy, _⟩ := hcs j x hj
          rw [Nat.zero_add, cell_of_row _ (heap_alloc_new w _), hy]
          simp [Array.getD_eq_getD_getElem?, hy]
        · obtain ⟨y, hy, hv⟩ := hcs j x hj
          have : c.getD j undef = y := by simp [Array.getD_eq_getD_getElem?, hy]
          rw [this]
          exact hp.vr h.good hv
      · intro base m' cap' hv hc
        injection hv with e1 e2 e3
        subst e3
        exact ⟨w.heap.size, 0, c, fz, e1.symm, by simp [hob i hi], by simp [hl], heap_alloc_new w _, by rw [hsz, Nat.zero_add], hfz.1, hfz.2, rfl, hz0, fun k y hk => hsp k y (by omega)⟩)
  exact ⟨_, by cases d <;> exact h1, h2⟩
theorem Inv.grownB (h : Inv G n D σ a w) {d : Option Nat} (hd : dstOK n d = true) {b off k m cap : Nat} {c : Array Value} {t : TypeId} {fz : Nat × Nat} {cs ds : List AV} {v : Value} {news : List Value} {R : Nat → Nat}
    (hb : w.heap[b]? = some (.cells c t fz)) (hfz : (∀ j, j < c.size → ¬ (fz.1 ≤ j ∧ j < fz.2)) ∧ fz.1 ≤ fz.2) (hof : off = 0) (hz0 : fz = (0, 0) ∨ (0 < k ∧ 0 < 1 ∧ ∃ x, c[0]? = some (.int .u8 x))) (hsp : ∀ (i : Nat) (y : Value), off + k * 1 ≤ i → c[i]? = some y → y.oneCell' = true) (ho : ∀ i, d = some i → G.O b = .slot i 0) (hon : G.O b ≠ .none ∧ G.O b ≠ .frame ∧ G.O b ≠ .sh ∧ (∀ i, G.O b ≠ .loc i) ∧ (∀ i j, G.O b ≠ .cell i j) ∧ (∀ i j, G.O b = .slot i j → d = some i ∧ j = 0))
    (hR : G.R b = off + k * 1) (hsz : c.size = off + cap * 1) (hcap : k + m ≤ cap) (hkm : 0 < k + m) (hlc : cs.length = k * 1) (hat : At w G.R b off cs) (hs : Src P w R 1 m ds v news) (hRR : R = G.R) :
    ∃ G', Inv G' n D (σ.put d (.bb t (k + m) (cs ++ ds))) (a.put d (.slice (some ⟨b, off, none⟩) (k + m) cap)) (w.setRow b (laid c (off + k * 1) news)) ∧ Pres G w G' (w.setRow b (laid c (off + k * 1) news)) := by
  subst hRR
  have hfit : off + k * 1 + news.length ≤ c.size := by
    rw [hs.len, hsz, Nat.add_assoc, ← Nat.add_mul]
    exact Nat.add_le_add_left (Nat.mul_le_mul_right _ hcap) _
  let G' := G.upd b (G.O b) (off + (k + m) * 1)
  have hmul : (k + m) * 1 = k * 1 + m * 1 := Nat.add_mul ..
  have hpres : Pres G w G' (w.setRow b (laid c (off + k * 1) news)) := Pres.write hb ⟨hon.2.1, hon.1⟩
    (fun j hj => by rw [hR] at hj; rw [laid_get _ _ _ hfit, if_neg (by omega)]) (by simp only [G', Gh.upd_R, if_true, hR, hmul]; omega) (fun b' hb' => by simp [G', hb'])
  have hgood : GoodW G' (w.setRow b (laid c (off + k * 1) news)) := by
    have hlt : b < w.heap.size := h.good.lt hon.1
    refine ⟨fun b' hb' => ?_, fun b' hb' => ?_⟩
    · have hb'' : w.heap.size ≤ b' := by simpa [World.setRow] using hb'
      have : b' ≠ b := by omega
      simp [G', this, h.good.newO b' hb'']
    · have hb'' : w.heap.size ≤ b' := by simpa [World.setRow] using hb'
      have : b' ≠ b := by omega
      simp [G', this, h.good.newR b' hb'']
  have same : ∀ b', b' ≠ b → G'.O b' = G.O b' ∧ G'.R b' = G.R b' ∧ (w.setRow b (laid c (off + k * 1) news)).heap[b']? = w.heap[b']? := fun b' hb' => ⟨by simp [G', hb'], by simp [G', hb'], setRow_other w b b' _ hb'⟩
  have hst := h.store.mono h.good hpres (fun b' hb' => by
      obtain ⟨q1, q2, q3⟩ := same b' (fun e => by subst e; exact hon.2.2.1 hb')
      exact ⟨q1.trans hb', q2, q3⟩) (fun b' c' j _ hc' => by
      obtain ⟨q1, q2, q3⟩ := same c' (fun e => by subst e; exact hon.2.2.2.2.1 _ _ hc')
      exact ⟨q1.trans hc', q2, q3⟩)
  have := h.put (s' := σ.s) (lp' := σ.lp) d (fun i hi => by subst hi; simpa [dstOK] using hd) (.bb t (k + m) (cs ++ ds)) (.slice (some ⟨b, off, none⟩) (k + m) cap) hgood hpres hst (fun _ hx => hx) (fun i t _ ht => ht.elim) (fun i t _ ⟨cs', hcs'⟩ => by cases hcs')
    (fun i b' hdi hb' => same b' (fun e => by
      subst e
      rcases hb' with ⟨j, hb'⟩ | hb'
      · exact hdi (hon.2.2.2.2.2 i j hb').1
      · exact hon.2.2.2.1 _ hb'))
    (fun i b' c' j hdi hb' hc' => by
      obtain ⟨q1, q2, q3⟩ := same c' (fun e => by subst e; exact hon.2.2.2.2.1 _ _ hc')
      exact ⟨q1.trans hc', q2, q3⟩)
    (fun i hi => by
      obtain ⟨u, u1, u2, u3⟩ := hat
      subst hi
      refine ⟨?_, ?_⟩
      · have hll : (cs ++ ds).length = (k + m) * 1 := by rw [List.length_append, hlc, hs.lenD, hmul]
        refine .bb t (k + m) (cs ++ ds) _ (.sl true 1 (k + m) (cs ++ ds) b off cap (fun j => if j < k * 1 then u j else news.getD (j - k * 1) undef) (fun x hx => ?_) hll (by rw [hll]; simp [G']) hcap (fun j x hj => ?_) (fun j x hj => ?_)) (fun e => by omega)
        · rcases List.mem_append.1 hx with hx | hx
          · exact u3 x hx
          · exact hs.fl x hx
        · rw [setRow_cell hb, if_pos rfl, laid_get _ _ _ hfit]
          have hjl : j < (k + m) * 1 := by rw [← hll]; exact (List.getElem?_eq_some_iff.1 hj).1
          by_cases hjk : j < k * 1
          · rw [if_neg (by omega), if_pos hjk]
            rw [List.getElem?_append_left (by rw [hlc]; exact hjk)] at hj
            rw [← cell_of_row w hb]
            exact u1 j x hj
          · have h1 := hs.len
            rw [if_pos (by omega), if_neg hjk]
            have : off + j - (off + k * 1) = j - k * 1 := by omega
            rw [this]
            have hlt : j - k * 1 < news.length := by omega
            rw [List.getD_eq_getElem?_getD, List.getElem?_eq_getElem hlt]; rfl
        · by_cases hjk : j < k * 1
          · rw [if_pos hjk]
            rw [List.getElem?_append_left (by rw [hlc]; exact hjk)] at hj
            exact hpres.vr h.good (u2 j x hj)
          · rw [if_neg hjk]
            rw [List.getElem?_append_right (by rw [hlc]; omega), hlc] at hj
            have h1 := hs.len
            have h2 := hs.lenD
            have hlt : j - k * 1 < news.length := by have := (List.getElem?_eq_some_iff.1 hj).1; omega
            have hn : news[j - k * 1]? = some (news.getD (j - k * 1) undef) := by rw [List.getD_eq_getElem?_getD, List.getElem?_eq_getElem hlt]; rfl
            exact hpres.vr h.good (hs.vals _ x _ hj hn)
      · intro base m' cap' hv hc
        injection hv with e1 e2 e3
        subst e3
        exact ⟨b, off, _, fz, e1.symm, by simp only [G', Gh.upd_O, if_true]; exact ho i rfl, by simp [G'], setRow_heap w b c _ t fz hb, by rw [laid_size _ _ _ hfit, hsz], by rw [laid_size _ _ _ hfit]; exact ⟨hfz.1, hfz.2, hof, hz0.imp id fun ⟨z1, z2, x, z3⟩ => ⟨by omega, x, by
          have zp : 0 < k * 1 := Nat.mul_pos z1 z2
          rw [laid_get _ _ _ hfit, if_neg (by omega)]; exact z3⟩, fun i y hi hy => by
          rw [laid_get _ _ _ hfit] at hy
          split at hy
          · exact hs.one _ (List.mem_of_getElem? hy)
          · exact hsp i y (by rw [hmul] at hi; omega) hy⟩⟩)
  exact ⟨G', by cases d <;> exact this, hpres⟩
theorem eff_appendB (h : Inv G n D σ a w) {op : Op} {ty : TypeId} {tb : Nat} {x y : IX} {d : Option Nat} {K : St → Prop} (hd : dstOK n d = true) (hc : chkOp P op ty (.appendB tb x y) = true) (hw : iwp P (.appendB tb x y) d σ K) : Eff P G n D w a op ty d K := by
  cases op <;> first | (simp [chkOp] at hc; done) | skip
  rename_i c
  simp only [chkOp] at hc
  split at hc <;> try (cases hc; done)
  rename_i u v t t' hb
  have hce := asB_eq hb
  subst hce
  simp only [Bool.and_eq_true] at hc
  obtain ⟨⟨hu, hv⟩, hc⟩ := hc
  split at hc <;> try (cases hc; done)
  rename_i e ht
  have ht := elemOfSl_eq ht
  simp only [Bool.and_eq_true] at hc
  obtain ⟨⟨⟨⟨hs, hby⟩, hzl⟩, ht'⟩, heb⟩ := hc
  obtain rfl : e = tb := by simpa using heb
  obtain ⟨i, z, hi, hz, hzs, hz1⟩ := zeroLen_eq hzl
  obtain ⟨i', hi', hisz⟩ := sizeIs_eq hs
  rw [hi] at hi'; injection hi' with hi'; subst hi'
  have hpos : 0 < 1 := Nat.one_pos
  have hbpos : 0 < 1 := Nat.one_pos
  have hby : i.bytes = 1 := by
    unfold bytesIs at hby
    rw [hi] at hby
    simpa using hby
  have ht2 : (∃ e', P.underlying t' = some (.slice e')) ∨ P.underlying t' = some .string := by
    rcases Bool.or_eq_true .. ▸ ht' with h | h
    · cases he : elemOfSl P t' with
      | none => rw [he] at h; cases h
      | some e' => exact .inl ⟨e', elemOfSl_eq he⟩
    · exact .inr (strT_eq h)
  have hw' : appendBW e σ x d K (σ.x x) (σ.x y) := hw
  -- the two kinds of what is appended
  have key : ∃ k m cs ds news, σ.x x = .bb e k cs ∧ Src P w G.R 1 m ds (a.eval v) news ∧ (k + m) * 1 ≤ room ∧ K ((σ.drain x).put d (.bb e (k + m) (cs ++ ds))) := by
    have hbx := XR.of_inv h hu
    have hby := XR.of_inv h hv
    generalize hx : σ.x x = xv at hw' hbx
    generalize hy : σ.x y = yv at hw' hby
    unfold appendBW at hw'
    split at hw' <;> try (exact hw'.elim)
    · rename_i t' k cs o s' m ds
      obtain ⟨rfl, h2, h3, h4⟩ := hw'
      obtain ⟨news, hsrc⟩ := Src.of_sl (P := P) hby h2
      exact ⟨k, m, cs, views ds, news, rfl, hsrc, h3, h4⟩
    · rename_i t' k cs ds
      obtain ⟨rfl, h3, h4⟩ := hw'
      have e1 := VR.inv_str hby
      exact ⟨k, ds.length, cs, _, _, rfl, by rw [e1]; exact Src.of_str, h3, h4⟩
  obtain ⟨k, m, cs, ds, news, hx, hsrc, hroom, hk⟩ := key
  have hiv : isV (σ.x x) = true := by rw [hx]; rfl
  obtain ⟨G1, h1, hp1, hv1, hown1, hR1, hsh, hloc, hcell⟩ := h.drain hu hiv (ownT d) (by cases d <;> simp [ownT]) (by cases d <;> simp [ownT])
  rw [hx] at hv1 hown1
  have hsrc1 : Src P w G1.R 1 m ds (a.eval v) news := by rw [hR1]; exact hsrc
  -- a new row
  have grow : ∀ (base : Option Addr) (cap : Nat) (olds : List Value), a.eval u = .slice base k cap → cap < k + m → olds.length = k * 1 → cs.length = k * 1 → Fl cs →
      (Builtin.firstCells 1 k (.slice base k cap)).run P w.drew = .ok olds.toArray w.drew → (∀ (j : Nat) (c : AV) (u : Value), cs[j]? = some c → olds[j]? = some u → VR w G1.R c u) →
      Eff P G n D w a (.call { callee := .builtin .append, args := #[u, v], argTypes := #[t, t'] }) ty d K := by
    intro base cap olds e1 hgrow hol hcl hcf hold hvals
    have hrun := run_app_grow (ty := ty) ht ht2 hi hz hisz hsrc1 hold hgrow (by rw [hby]; exact hroom) (by rw [hby]; exact hbpos)
    have hge : k + m ≤ grownCap w (k + m) cap e := grownCap_ge w (k + m) cap e
    obtain ⟨G2, h3, h4⟩ := (h1.drew).newBb (t := e) (c := olds.toArray ++ news.toArray ++ Builtin.zeroCells z.cells (grownCap w (k + m) cap e - (k + m))) (m := k + m) (cs := cs ++ ds) (cap := grownCap w (k + m) cap e)  (ob := match d with | some i => .slot i 0 | none => .none) hd (by omega)
      (fun i hi => by subst hi; rfl) (fun hn => by subst hn; rfl) (by rw [List.length_append, hcl, hsrc.lenD, Nat.add_mul]) hge (by
        simp only [Array.size_append, List.size_toArray, size_zeroCells, hol, hsrc.len, hzs, ← Nat.add_mul]
        congr 1; omega) (fun c hc => by
        rcases List.mem_append.1 hc with hc | hc
        · exact hcf c hc
        · exact hsrc.fl c hc)
      (fun j x hj => by
        have hl1 := hsrc.len
        have hl2 := hsrc.lenD
        by_cases hjk : j < k * 1
        · rw [List.getElem?_append_left (by rw [hcl]; exact hjk)] at hj
          have hlt : j < olds.length := by rw [hol]; exact hjk
          refine ⟨olds[j], ?_, ?_⟩
          · rw [Array.append_assoc, Array.getElem?_append_left (by simpa using hlt)]
            simp [hlt]
          · exact (Pres.drew G1 w).vr h1.good (hvals j x _ hj (List.getElem?_eq_getElem hlt))
        · rw [List.getElem?_append_right (by rw [hcl]; omega), hcl] at hj
          have hlt : j - k * 1 < news.length := by have := (List.getElem?_eq_some_iff.1 hj).1; omega
          refine ⟨news[j - k * 1], ?_, ?_⟩
          · rw [Array.append_assoc, Array.getElem?_append_right (by simp [hol]; omega), Array.getElem?_append_left (by simp [hol]; omega)]
            simp only [List.size_toArray, hol, List.getElem?_toArray]
            exact List.getElem?_eq_getElem hlt
          · exact (Pres.drew G1 w).vr h1.good (hsrc1.vals _ x _ hj (List.getElem?_eq_getElem hlt))) (0, 0) ⟨fun k _ hk => by simp at hk, Nat.le_refl _⟩ (.inl rfl) (fun i y hi hy => by
        rw [Array.append_assoc, ← Array.append_assoc, Array.getElem?_append_right (by simp only [Array.size_append, List.size_toArray, hol, hsrc.len, ← Nat.add_mul]; exact hi)] at hy
        exact zeroCells_one hz1 _ _ (List.mem_of_getElem? (by rw [Array.getElem?_toList]; exact hy)))
    intro pos after gd next Q hn
    refine wp_value ?_ (hn G2 _ _ _ h3 (hp1.trans ((Pres.drew G1 w).trans h4)) hk)
    simp [execOp, resolve, invoke, builtin, e1, hrun]
  rcases VR.inv_sl (VR.inv_bb hv1) with ⟨e0, rfl, rfl⟩ | ⟨b, off, cap, e1, hcl, hRb, hcap, hat⟩
  · -- nil
    have e1 := e0.own
    by_cases hm : m = 0
    · subst hm
      have hds : ds = [] := List.eq_nil_of_length_eq_zero (by simpa using hsrc.lenD)
      subst hds
      have hrun := run_app_nil0 (ty := ty) ht ht2 hi hisz hsrc1
      have hput : Inv G1 n D ((σ.drain x).put d (.bb e 0 [])) (a.put d (.slice none 0 0)) w := by
        have := h1.put (s' := (σ.drain x).s) (lp' := (σ.drain x).lp) d (fun i hi => by subst hi; simpa [dstOK] using hd) (.bb e 0 []) (.slice none 0 0) h1.good (Pres.refl G1 w) h1.store (fun _ hx => hx) (fun i t _ ht => ht.elim) (fun i t _ ⟨cs, hcs⟩ => by cases hcs)
          (fun _ _ _ _ => ⟨rfl, rfl, rfl⟩) (fun _ _ _ _ _ _ hcc => ⟨hcc, rfl, rfl⟩) (fun i hdi => ⟨.bb _ _ _ _ (.slnil _ _) (fun _ => rfl), fun base m' cap' hv hc => by injection hv with _ e2 e3; omega⟩)
        cases d <;> exact this
      intro pos after gd next Q hn
      refine wp_value (w' := w) ?_ (hn G1 _ _ _ hput hp1 hk)
      simp [execOp, resolve, invoke, builtin, e1, hrun]
    · exact grow none 0 [] e1 (by omega) (by simp) (by simp) Fl.nil (by simp [Builtin.firstCells]) (fun j c u hc => by simp at hc)
  · by_cases hfit : k + m ≤ cap
    · by_cases hm : m = 0
      · subst hm
        have hds : ds = [] := List.eq_nil_of_length_eq_zero (by simpa using hsrc.lenD)
        have hnews : news = [] := List.eq_nil_of_length_eq_zero (by simpa using hsrc.len)
        subst hds; subst hnews
        have hrun := run_app_stay (ty := ty) (w := w) ht ht2 hi hisz hsrc1 (b := b) (off := off) (k := k) (cap := cap) hfit (w' := w) rfl
        simp only [List.append_nil, Nat.add_zero] at hk hrun
        have hput : Inv G1 n D ((σ.drain x).put d (.bb e k cs)) (a.put d (a.eval u)) w := by
          have := h1.put (s' := (σ.drain x).s) (lp' := (σ.drain x).lp) d (fun i hi => by subst hi; simpa [dstOK] using hd) (.bb e k cs) (a.eval u) h1.good (Pres.refl G1 w) h1.store (fun _ hx => hx) (fun i t _ ht => ht.elim) (fun i t _ ⟨cs, hcs⟩ => by cases hcs)
            (fun _ _ _ _ => ⟨rfl, rfl, rfl⟩) (fun _ _ _ _ _ _ hcc => ⟨hcc, rfl, rfl⟩) (fun i hdi => by subst hdi; exact ⟨hv1, hown1⟩)
          cases d <;> exact this
        intro pos after gd next Q hn
        refine wp_value (w' := w) ?_ (hn G1 _ _ _ hput hp1 hk)
        simp [execOp, resolve, invoke, builtin, e1, hrun]
      · obtain ⟨b', off', c, fz, q1, q2, q3, q4, q5, q6⟩ := hown1 _ _ _ e1 (by omega)
        injection q1 with q1; injection q1 with q1 q1'
        subst q1; subst q1'
        have hon : G1.O b ≠ .none ∧ G1.O b ≠ .frame ∧ G1.O b ≠ .sh ∧ (∀ i, G1.O b ≠ .loc i) ∧ (∀ i j, G1.O b ≠ .cell i j) ∧ (∀ i j, G1.O b = .slot i j → d = some i ∧ j = 0) := by
          rw [q2]
          cases d with
          | none => simp [ownT]
          | some i => simp +contextual [ownT]
        obtain ⟨G2, h3, h4⟩ := h1.grownB (k := k) (m := m) hd q4 ⟨q6.1, q6.2.1⟩ q6.2.2.1 (q6.2.2.2.1.imp id fun ⟨z1, z2⟩ => ⟨z1, hpos, z2⟩) q6.2.2.2.2 (fun i hi => by subst hi; exact q2) hon q3 q5 hfit (by omega) hcl hat hsrc1 rfl
        have hfit2 : off + k * 1 + news.length ≤ c.size := by
          rw [hsrc.len, q5, Nat.add_assoc, ← Nat.add_mul]
          exact Nat.add_le_add_left (Nat.mul_le_mul_right _ hfit) _
        have hst := run_storeCells_free (P := P) b (off + k * 1) e fz news 0 c w q4 q6.1 (by simpa using hfit2) hsrc.one
        have hrun := run_app_stay (ty := ty) (w := w) ht ht2 hi hisz hsrc1 (b := b) (off := off) (k := k) (cap := cap) hfit (w' := w.setRow b (laid c (off + k * 1) news)) (by simpa [laid] using hst)
        intro pos after gd next Q hn
        refine wp_value ?_ (hn G2 _ _ _ h3 (hp1.trans h4) hk)
        simp [execOp, resolve, invoke, builtin, e1, hrun]
    · have hfl : Fl cs := by obtain ⟨_, _, _, hf⟩ := hat; exact hf
      obtain ⟨us, u1, u2, u3⟩ := hat.vals
      exact grow _ cap us e1 (by omega) (by rw [u1, hcl]) hcl hfl (run_firstCells_some w.drew 1 k ⟨b, off, none⟩ k cap us (by rw [u1, hcl]) u2) u3
end
end Go.AB
end

section
namespace Go.AB
open Go
section
variable {P : Program} {G G' : Gh} {n : Nat} {D : List Deferred} {σ : St} {a : Act} {w w' : World}
theorem StoreR.shape {s : Store} (h : StoreR G w s) {b : Nat} {cs : List AV} (hs : s b = some (.cells cs)) : ∃ t, w.shape? b = some (t, cs.length) ∧ FlT t cs := by
 obtain ⟨_, _, c, t, h4, h5, h6⟩ := h b _ hs
 exact ⟨t, by simp [World.shape?, h4, h5.1], h6⟩
theorem XR.ref (h : Inv G n D σ a w) {y : Operand} {x : IX} (hy : chkX y x = true) {b off : Nat} (hx : σ.x x = .ref b off) : a.eval y = .pointer (some ⟨b, off, none⟩) := by
 have := XR.of_inv h hy
 rw [hx] at this
 exact VR.inv_ref this
theorem eff_boxT (h : Inv G n D σ a w) {op : Op} {ty : TypeId} {m t0 j0 u0 : Nat} {x : IX} {d : Option Nat} {K : St → Prop} (hd : dstOK n d = true) (hc : chkOp P op ty (.boxT m t0 j0 u0 x) = true) (hw : iwp P (.boxT m t0 j0 u0 x) d σ K) : Eff P G n D w a op ty d K := by
  cases op <;> first | (simp [chkOp] at hc; done) | skip
  rename_i t y
  simp only [chkOp, Bool.and_eq_true, beq_iff_eq] at hc
  obtain ⟨⟨rfl, _⟩, hc⟩ := hc
  obtain ⟨hi, _, hj0, hj1, hk⟩ := hw
  have hvr : VR w G.R (σ.x x) (a.eval y) := by
    have := XR.of_inv h hc
    generalize σ.x x = av at hi this
    cases av <;> first | exact this | (simp [isV] at hi)
  have hrow := cellsOf_row hi hvr
  have hj : j0 + 1 < (cellsOf (σ.x x)).length := (List.getElem?_eq_some_iff.1 hj1).1
  have hcs : ∀ (G' : Gh) (w' : World) (o : Nat → Owner), Pres G w G' w' → CellsR G' w' o (setAt (views (cellsOf (σ.x x))) j0 [.btag t0, .bb u0 0 []]) (a.eval y).cells := by
    intro G' w' o hp
    have hlen : j0 + [AV.btag t0, AV.bb u0 0 []].length ≤ (views (cellsOf (σ.x x))).length := by simp [views]; omega
    refine ⟨by rw [setAt_len _ _ _ hlen]; simp only [List.length_map, views]; exact hrow.1, fun j c u hcj hu => ?_⟩
    rw [setAt_get _ _ _ _ hlen] at hcj
    by_cases h1 : j = j0
    · subst h1
      rw [if_pos ⟨Nat.le_refl _, by simp⟩, Nat.sub_self] at hcj
      injection hcj with hcj; subst hcj
      have hu' := hrow.2.1 j .nilp u hj0 hu
      obtain rfl : u = .pointer none := VR.inv_nilp hu'
      exact ⟨.btag t0, trivial⟩
    · by_cases h2 : j = j0 + 1
      · subst h2
        rw [if_pos ⟨by omega, by simp⟩, show j0 + 1 - j0 = 1 by omega] at hcj
        injection hcj with hcj; subst hcj
        have hu' := hrow.2.1 _ _ u hj1 hu
        have e : u = .slice none 0 0 := by cases hu' with | bb _ _ _ _ h h0 => exact h0 rfl
        subst e
        exact ⟨.bb _ _ _ _ (.slnil _ _) (fun _ => rfl), fun base m' cap' hv hc => by injection hv with _ e2 e3; omega⟩
      · rw [if_neg (by simp; omega), views_get] at hcj
        cases hz : (cellsOf (σ.x x))[j]? with
        | none => rw [hz] at hcj; cases hcj
        | some c0 =>
          rw [hz] at hcj; simp at hcj
          have h1 := hp.vr h.good (hrow.2.1 j c0 u hz hu)
          rw [← hcj]
          exact ⟨h1.view, OwnR.view ..⟩
  have hfl : FlT t0 (setAt (views (cellsOf (σ.x x))) j0 [.btag t0, .bb u0 0 []]) := by
    intro c hc'
    unfold setAt at hc'
    simp only [List.mem_append] at hc'
    have base := hrow.2.2.views
    rcases hc' with (hc' | hc') | hc'
    · exact .inl (base c (List.mem_of_mem_take hc'))
    · simp only [List.mem_cons, List.not_mem_nil, or_false] at hc'
      rcases hc' with rfl | rfl
      · exact .inr rfl
      · exact .inl rfl
    · exact .inl (base c (List.mem_of_mem_drop hc'))
  intro pos after g next Q hn
  obtain ⟨G', h1, h2⟩ := h.newST hd (t := t0) (.inl ⟨rfl, rfl⟩) hcs hfl
  refine wp_value ?_ (hn G' _ _ _ h1 h2 (hk w.heap.size (h.store.get_none h.good)))
  simp [execOp, Instr.box, newVar, newRow]
end
end Go.AB
end
