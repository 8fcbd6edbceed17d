/- The abstract layer, part 15n: maps are asked and written; a row of bytes that stands for a string's. -/
import Derived.Test.YtbinmjafmcaehaaAb15m
namespace Go.AB
open Go Go.MapKept

section
variable {P : Program} {G : Gh} {n : Nat} {σ : St} {a : Act} {w : World}

theorem findK_run {R : Nat → Nat} {kk : KeyK} {k : AV} {x : Value} (hk : keyOK kk k = true) (hx : VR w R k x) : ∀ (es : List (AV × AV)) (l : List MapEntry), l.length = es.length →
    (∀ (j : Nat) (p : AV × AV) (y : MapEntry), es[j]? = some p → l[j]? = some y → VR w R p.1 y.key ∧ VR w R p.2 y.val) → keysOK kk es = true →
    ((∀ e ∈ l, e.key ≠ x) → findK k es = none ∧ ∀ v, putK k v es = es ++ [(k, v)]) ∧
    (∀ (j : Nat) (e : MapEntry), l[j]? = some e → e.key = x → (∀ (i : Nat) (e' : MapEntry), i < j → l[i]? = some e' → e'.key ≠ x) → ∃ p, es[j]? = some p ∧ findK k es = some p.2 ∧ ∀ v, putK k v es = es.set j (k, v))
  | [], [], _, _, _ => ⟨fun _ => ⟨rfl, fun v => rfl⟩, fun j e hj => by simp at hj⟩
  | [], _ :: _, hl, _, _ => by simp at hl
  | _ :: _, [], hl, _, _ => by simp at hl
  | p :: es, y :: l, hl, hr, hks => by
    have hks' : keyOK kk p.1 = true ∧ keysOK kk es = true := by simpa [keysOK] using hks
    have h0 := (hr 0 p y rfl rfl).1
    have hiff := keyIs_iff hk hks'.1 hx h0
    obtain ⟨i1, i2⟩ := findK_run hk hx es l (by simpa using hl) (fun j q z hq hz => hr (j + 1) q z (by simpa using hq) (by simpa using hz)) hks'.2
    constructor
    · intro hne
      have hf : keyIs k p.1 = false := by
        cases hh : keyIs k p.1 with
        | false => rfl
        | true => exact absurd (hiff.1 hh) (hne y (.head _))
      obtain ⟨j1, j2⟩ := i1 fun e he => hne e (.tail _ he)
      refine ⟨by simp [findK, hf, j1], fun v => by simp [putK, hf, j2 v]⟩
    · intro j e hj hek hfirst
      cases j with
      | zero =>
        simp at hj; subst hj
        have hf : keyIs k p.1 = true := hiff.2 hek
        exact ⟨p, rfl, by simp [findK, hf], fun v => by simp [putK, hf]⟩
      | succ j =>
        have hf : keyIs k p.1 = false := by
          cases hh : keyIs k p.1 with
          | false => rfl
          | true => exact absurd (hiff.1 hh) (hfirst 0 y (by omega) rfl)
        obtain ⟨q, q1, q2, q3⟩ := i2 j e (by simpa using hj) hek fun i e' hi he' => hfirst (i + 1) e' (by omega) (by simpa using he')
        exact ⟨q, by simpa using q1, by simp [findK, hf, q2], fun v => by simp [putK, hf, q3 v]⟩

theorem Inv.putPlain (h : Inv G n σ a w) {d : Option Nat} (hd : dstOK n d = true) {av : AV} {v : Value} (hi : isV av = true) (hv : VR w G.R av v) : Inv G n (σ.put d (view av)) (a.put d v) w := by
  have h2 : NR G w σ a (view av) v := NR.view hi hv
  have := h.put (s' := σ.s) (lp' := σ.lp) d (fun i hi => by subst hi; simpa [dstOK] using hd) (view av) v h.good (Pres.refl G w) h.store (fun _ hx => hx) (fun i t _ ht => (not_holdsLp (isV_view hi) t ht).elim) (fun i t _ ⟨cs, hcs⟩ => (not_loc (isV_view hi) cs hcs).elim)
    (fun _ _ _ _ => ⟨rfl, rfl, rfl⟩) (fun _ _ _ _ _ _ hcc => ⟨hcc, rfl, rfl⟩) (fun i hdi => ValS.mk_view hi hv)
  cases d <;> exact this

theorem Inv.putTup (h : Inv G n σ a w) {d : Option Nat} (hd : dstOK n d = true) {av : AV} {v : Value} (b : Bool) (hv : VR w G.R av v) : Inv G n (σ.put d (.tup [view av, .bool b])) (a.put d (.tuple #[v, .bool b])) w := by
  have := h.put (s' := σ.s) (lp' := σ.lp) d (fun i hi => by subst hi; simpa [dstOK] using hd) (.tup [view av, .bool b]) (.tuple #[v, .bool b]) h.good (Pres.refl G w) h.store (fun _ hx => hx) (fun i t _ ht => ht.elim) (fun i t _ ⟨cs, hcs⟩ => by cases hcs)
    (fun _ _ _ _ => ⟨rfl, rfl, rfl⟩) (fun _ _ _ _ _ _ hcc => ⟨hcc, rfl, rfl⟩) (fun i hdi => ⟨_, rfl, rfl, fun j x y hx hy => by
      match j with
      | 0 => simp at hx hy; subst hx; subst hy; exact ⟨hv.view, OwnR.view ..⟩
      | 1 => simp at hx hy; subst hx; subst hy; exact ⟨.bool b, trivial⟩
      | j + 2 => simp at hx⟩)
  cases d <;> exact this

theorem view_ok (ok : Bool) (av : AV) (b : Bool) (hv : view av = av) : okV ok av b = bif ok then .tup [view av, .bool b] else view av := by cases ok <;> simp [okV, hv]

theorem BR.key {x : IX} {kk : KeyK} {av : AV} {v : Value} (hk : keyOK kk av = true) (h : BR G w σ a x av v) : VR w G.R av v := by
  cases av <;> first | exact h | (cases kk <;> simp [keyOK] at hk)

theorem zeroAV_run {t : TypeId} {z : AV} (h : zeroAV P t z = true) : ∃ v, (∀ w : World, (zeroValue t).run P w = .ok v w) ∧ (∀ (w : World) (R : Nat → Nat), VR w R z v) ∧ isV z = true := by
  unfold zeroAV at h
  split at h <;> first | (cases h; done) | skip
  rename_i i hi
  split at h <;> first | (cases h; done) | skip
  rename_i v hv
  refine ⟨v, fun w => by simp [zeroValue, typeInfo, hi, hv], ?_⟩
  split at h
  · exact ⟨fun w R => cRs_agg h w R, rfl⟩
  · exact ⟨fun w R => cR_vr h w R, cR_isV h⟩

theorem eff_lookup (h : Inv G n σ a w) {op : Op} {ty : TypeId} {kk : KeyK} {z : AV} {ok : Bool} {x k : IX} {d : Option Nat} {K : St → Prop} (hd : dstOK n d = true) (hc : chkOp P op ty (.lookup kk z ok x k) = true) (hw : iwp P (.lookup kk z ok x k) d σ K) : Eff P G n w a op ty d K := by
  cases op <;> first | (simp [chkOp] at hc; done) | skip
  rename_i t y j ok'
  simp only [chkOp, Bool.and_eq_true, beq_iff_eq] at hc
  obtain ⟨⟨⟨hy, hj⟩, rfl⟩, hc⟩ := hc
  split at hc <;> try (cases hc; done)
  rename_i kt et ht
  simp only [Bool.and_eq_true] at hc
  obtain ⟨hkt, hz⟩ := hc
  have hrun := keyRun_of hkt
  obtain ⟨zv, hz1, hz2, hz3⟩ := zeroAV_run hz
  have hb := BR.of_inv h hy
  have hbk := BR.of_inv h hj
  have hw' : prK σ d K (lookupV kk z ok σ.s (xg true σ k) (xg true σ x)) := hw
  generalize xg true σ x = xv at hb hw'
  generalize xg true σ k = kv at hbk hw'
  -- what comes up
  have fin : ∀ (av : AV) (v : Value) (b : Bool), (ok = false → isV av = true) → VR w G.R av v → K (σ.put d (okV ok av b)) → view av = av →
      (∀ (pos : String) (after : Array Edge) (g : Option (Nat × Bool)), (execOp a.eval ⟨d, .lookup t y j ok, ty, pos, after, g⟩).run P w = .ok (.value (if ok then .tuple #[v, .bool b] else v)) w) → Eff P G n w a (.lookup t y j ok) ty d K := by
    intro av v b hi hvr hk hvw hr pos after g next Q hn
    refine wp_value (hr pos after g) (hn G _ _ _ ?_ (Pres.refl G w) hk)
    cases ok with
    | true =>
      have := h.putTup hd b hvr
      rw [hvw] at this
      exact this
    | false =>
      have := h.putPlain hd (hi rfl) hvr
      rw [hvw] at this
      exact this
  have pl : ∀ {av : AV} {b : Bool}, plainL ok (okV ok av b) = true → ok = false → isV av = true := by
    intro av b hp ho
    subst ho
    exact hp
  unfold lookupV at hw'
  split at hw'
  · rename_i b
    have e1 : a.eval y = .map (some b) := VR.inv_mp hb
    unfold lookupO at hw'
    split at hw' <;> try (exact hw'.elim)
    rename_i es hes
    unfold ckL at hw'
    cases hp : plainL ok (lookV z ok (findK kv es)) with
    | false => rw [hp] at hw'; exact hw'.elim
    | true =>
    rw [hp] at hw'
    obtain ⟨⟨hkk, hks⟩, hK⟩ := hw'
    have hvk := hbk.key hkk
    have hkv := keyOK_kv hkk hvk
    obtain ⟨_, _, ents, clock, hh, hsz, hent⟩ := h.store b _ hes
    have hall : ∀ e ∈ ents.toList, KV kk e.key := fun e he => by
      obtain ⟨i, hi⟩ := List.mem_iff_getElem?.1 he
      have hlt : i < es.length := by rw [← hsz]; have := (List.getElem?_eq_some_iff.1 hi).1; simpa using this
      have h1 := hent i _ e (List.getElem?_eq_getElem hlt) (by simpa using hi)
      exact keyOK_kv (List.all_eq_true.1 hks _ (List.getElem_mem hlt)) h1.1
    obtain ⟨f1, f2⟩ := findK_run hkk hvk es ents.toList (by simpa using hsz) (fun j p y hp hy => hent j p y hp (by simpa using hy)) hks
    have hget := run_getObj_map (P := P) hh
    have hck := hrun.check w ents.isEmpty _ hkv
    rcases hrun.find w _ hkv ents.toList hall with ⟨q1, q2⟩ | ⟨m, e, q1, q2, q3, q4⟩
    · obtain ⟨g1, _⟩ := f1 q2
      rw [g1] at hK hp
      refine fin (view z) zv false (pl hp) (hz2 w G.R).view hK (view_view _) fun pos after g => ?_
      cases ok <;> simp [execOp, Instr.lookup, run_underlying ht, e1, hget, hck, q1, hz1]
    · obtain ⟨p, g1, g2, _⟩ := f2 m e q2 q3 q4
      rw [g2] at hK hp
      have hvr := (hent m p e g1 (by simpa using q2)).2
      refine fin (view p.2) e.val true (pl hp) hvr.view hK (view_view _) fun pos after g => ?_
      cases ok <;> simp [execOp, Instr.lookup, run_underlying ht, e1, hget, hck, q1]
  · have e1 : a.eval y = .map none := VR.inv_nilm hb
    unfold ckL at hw'
    cases hp : plainL ok (okV ok (view z) false) with
    | false => rw [hp] at hw'; exact hw'.elim
    | true =>
    rw [hp] at hw'
    obtain ⟨hkk, hK⟩ := hw'
    have hkv := keyOK_kv hkk (hbk.key hkk)
    have hck := hrun.check w true _ hkv
    refine fin (view z) zv false (pl hp) (hz2 w G.R).view hK (view_view _) fun pos after g => ?_
    · rcases hrun.find w _ hkv [] (by simp) with ⟨q1, _⟩ | ⟨m, e, _, q2, _⟩
      · cases ok <;> simp [execOp, Instr.lookup, run_underlying ht, e1, hck, q1, hz1]
      · simp at q2
  · exact hw'.elim

/-- A shared map is laid anew. -/
theorem Inv.remap (h : Inv G n σ a w) {b : Nat} {ents ents' : Array MapEntry} {clock clock' : Nat} (hb : w.heap[b]? = some (.map ents clock)) (ho : G.O b = .sh) (hR : G.R b = 0) {es' : List (AV × AV)}
    (hent : ents'.size = es'.length ∧ ∀ (j : Nat) (x : AV × AV) (y : MapEntry), es'[j]? = some x → ents'[j]? = some y → EntR G w x y) :
    Inv G n { σ with s := σ.s.set b (.map es') } a { w with heap := w.heap.setIfInBounds b (.map ents' clock') } ∧ Pres G w G { w with heap := w.heap.setIfInBounds b (.map ents' clock') } := by
  obtain ⟨hs1, hs2⟩ := heap_set (w := w) (o' := .map ents' clock') hb
  have hcell : ∀ c k, ({ w with heap := w.heap.setIfInBounds b (.map ents' clock') } : World).cell? ⟨c, k, none⟩ = w.cell? ⟨c, k, none⟩ := by
    intro c k
    by_cases hc : c = b
    · subst hc
      unfold World.cell?
      simp only [hs1, hb]
    · exact World.cell?_of_block (hs2 c hc)
  have hsz : ({ w with heap := w.heap.setIfInBounds b (.map ents' clock') } : World).heap.size = w.heap.size := by simp
  have hp : Pres G w G { w with heap := w.heap.setIfInBounds b (.map ents' clock') } :=
    ⟨rfl, rfl, rfl, by rw [hsz]; exact Nat.le_refl _, fun _ _ => Nat.le_refl _, fun c k _ _ => hcell c k, fun c _ hc => hs2 c (fun e => by subst e; rw [ho] at hc; rcases hc with hc | hc <;> cases hc), fun _ _ h => ⟨h, rfl⟩, fun _ _ h => ⟨h, rfl⟩⟩
  have hne : ∀ c, G.O c ≠ .sh → ({ w with heap := w.heap.setIfInBounds b (.map ents' clock') } : World).heap[c]? = w.heap[c]? := fun c hc => hs2 c fun e => hc (by rw [e]; exact ho)
  refine ⟨⟨⟨fun c hc => h.good.newO c (by rw [hsz] at hc; exact hc), fun c hc => h.good.newR c (by rw [hsz] at hc; exact hc)⟩, ?_, h.size, fun i v hi => ?_, h.dom, h.lps, h.def0⟩, hp⟩
  · intro c o hc
    have hc' : (if c = b then some (SO.map es') else σ.s c) = some o := hc
    by_cases hcb : c = b
    · rw [if_pos hcb] at hc'
      injection hc' with hc'
      subst hcb; subst hc'
      exact ⟨ho, hR, ents', clock', hs1, hent.1, fun j x y hx hy => ⟨hp.vr h.good (hent.2 j x y hx hy).1, hp.vr h.good (hent.2 j x y hx hy).2⟩⟩
    · rw [if_neg hcb] at hc'
      obtain ⟨r1, r2, r3⟩ := h.store c o hc'
      refine ⟨r1, r2, ?_⟩
      cases o with
      | cells cs =>
        obtain ⟨c0, t0, k1, k2, k3⟩ := r3
        exact ⟨c0, t0, (hs2 c hcb).trans k1, k2.mono (fun _ _ hv => hp.vr h.good hv) (fun c' j hc' => ⟨hc', rfl, hne c' (by rw [hc']; simp)⟩), k3⟩
      | map es =>
        obtain ⟨e0, t0, k1, k2, k3⟩ := r3
        exact ⟨e0, t0, (hs2 c hcb).trans k1, k2, fun j x y hx hy => ⟨hp.vr h.good (k3 j x y hx hy).1, hp.vr h.good (k3 j x y hx hy).2⟩⟩
  · exact ValS.frame (fun _ _ hv => hp.vr h.good hv) (fun c hc => ⟨rfl, rfl, hne c (by rcases hc with ⟨j, hc⟩ | hc <;> rw [hc] <;> simp)⟩) (fun c c' j _ hc => ⟨hc, rfl, hne c' (by rw [hc]; simp)⟩) _ _ (fun d _ cs hcs => ⟨cs, hcs, rfl⟩) (h.slots i v hi)

theorem eff_mapUpdate (h : Inv G n σ a w) {op : Op} {ty : TypeId} {kk : KeyK} {x k v : IX} {d : Option Nat} {K : St → Prop} (hd : dstOK n d = true) (hc : chkOp P op ty (.mapUpdate kk x k v) = true) (hw : iwp P (.mapUpdate kk x k v) d σ K) : Eff P G n w a op ty d K := by
  cases op <;> first | (simp [chkOp] at hc; done) | skip
  rename_i t y j u
  simp only [chkOp, Bool.and_eq_true] at hc
  obtain ⟨⟨⟨hy, hj⟩, hu⟩, hc⟩ := hc
  split at hc <;> try (cases hc; done)
  rename_i kt et ht
  have hrun := keyRun_of hc
  have hb := BR.of_inv h hy
  have hbk := BR.of_inv h hj
  have hbv := BR.of_inv h hu
  have hw' : mapUpdW kk σ (xg true σ k) (xg true σ v) d K (xg true σ x) := hw
  generalize xg true σ x = xv at hb hw'
  generalize xg true σ k = kv at hbk hw'
  generalize xg true σ v = vv at hbv hw'
  unfold mapUpdW at hw'
  split at hw' <;> try (exact hw'.elim)
  rename_i b
  unfold updO at hw'
  split at hw' <;> try (exact hw'.elim)
  rename_i es hes
  obtain ⟨⟨hi, hkk, hks⟩, hK⟩ := hw'
  have e1 : a.eval y = .map (some b) := VR.inv_mp hb
  have hvv : VR w G.R vv (a.eval u) := by cases vv <;> first | exact hbv | (simp [isV] at hi)
  have hvk := hbk.key hkk
  have hkv := keyOK_kv hkk hvk
  obtain ⟨ho, hR, ents, clock, hh, hsz, hent⟩ := h.store b _ hes
  have hall : ∀ e ∈ ents.toList, KV kk e.key := fun e he => by
    obtain ⟨i, hi⟩ := List.mem_iff_getElem?.1 he
    have hlt : i < es.length := by rw [← hsz]; have := (List.getElem?_eq_some_iff.1 hi).1; simpa using this
    have h1 := hent i _ e (List.getElem?_eq_getElem hlt) (by simpa using hi)
    exact keyOK_kv (List.all_eq_true.1 hks _ (List.getElem_mem hlt)) h1.1
  have hview : keyOK kk (view kv) = true ∧ view kv = kv := by cases kv <;> cases kk <;> simp_all [keyOK, view]
  rw [hview.2] at hK
  obtain ⟨f1, f2⟩ := findK_run hkk hvk es ents.toList (by simpa using hsz) (fun j p y hp hy => hent j p y hp (by simpa using hy)) hks
  have hget := run_getObj_map (P := P) hh
  have hck := hrun.check w false _ hkv
  have hput : ∀ (τ : St) (w' : World), Inv G n τ a w' → Inv G n (τ.put d (.tup [])) (a.put d undef) w' := by
    intro τ w' hτ
    have := hτ.put (s' := τ.s) (lp' := τ.lp) d (fun i hi => by subst hi; simpa [dstOK] using hd) (.tup []) undef hτ.good (Pres.refl G w') hτ.store (fun _ hx => hx) (fun i t _ ht => ht.elim) (fun i t _ ⟨cs, hcs⟩ => by cases hcs)
      (fun _ _ _ _ => ⟨rfl, rfl, rfl⟩) (fun _ _ _ _ _ _ hcc => ⟨hcc, rfl, rfl⟩) (fun i hdi => ⟨#[], rfl, rfl, fun j x y hx => by simp at hx⟩)
    cases d <;> exact this
  intro pos after gd next Q hn
  rcases hrun.find w _ hkv ents.toList hall with ⟨q1, q2⟩ | ⟨m, e, q1, q2, q3, q4⟩
  · obtain ⟨_, g2⟩ := f1 q2
    rw [g2] at hK
    obtain ⟨h1, h2⟩ := h.remap (clock' := clock + 1) (ents' := ents.push { key := a.eval j, val := a.eval u, born := clock }) (es' := es ++ [(kv, view vv)]) hh ho hR ⟨by simp [hsz], fun i p z hp hz => by
      rw [Array.getElem?_push] at hz
      by_cases hi' : i = es.length
      · subst hi'
        rw [if_pos hsz.symm] at hz
        simp at hp
        injection hz with hz
        subst hp; subst hz
        exact ⟨hvk, hvv.view⟩
      · rw [if_neg (by omega)] at hz
        have hlt : i < es.length := by
          have := (List.getElem?_eq_some_iff.1 hp).1
          simp at this; omega
        rw [List.getElem?_append_left hlt] at hp
        exact hent i p z hp hz⟩
    refine wp_skip' (w' := _) ?_ (hn G _ _ _ (hput _ _ h1) h2 hK)
    simp [execOp, Instr.mapUpdate, run_underlying ht, e1, hget, hck, q1, run_setObj_map _ hh]
  · obtain ⟨p, g1, _, g2⟩ := f2 m e q2 q3 q4
    rw [g2] at hK
    have hmlt : m < ents.size := by have := (List.getElem?_eq_some_iff.1 q2).1; simpa using this
    have hem : ents[m]? = some e := by simpa using q2
    have hst := hrun.stays w _ hkv
    obtain ⟨h1, h2⟩ := h.remap (clock' := clock) (ents' := ents.modify m fun e => { e with key := a.eval j, val := a.eval u }) (es' := es.set m (kv, view vv)) hh ho hR ⟨by simp [hsz], fun i p z hp hz => by
      rw [Array.getElem?_modify] at hz
      by_cases hi' : m = i
      · subst hi'
        rw [if_pos rfl, hem] at hz
        simp at hz
        rw [List.getElem?_set_self (by omega)] at hp
        injection hp with hp
        subst hp; subst hz
        exact ⟨hvk, hvv.view⟩
      · rw [if_neg hi'] at hz
        rw [List.getElem?_set_ne hi'] at hp
        exact hent i p z hp hz⟩
    refine wp_skip' (w' := _) ?_ (hn G _ _ _ (hput _ _ h1) h2 hK)
    simp [execOp, Instr.mapUpdate, run_underlying ht, e1, hget, hck, q1, hem, q3, hst, run_setObj_map _ hh]

/-- A row of one's own is marked behind its end. -/
theorem eff_cvtRow (h : Inv G n σ a w) {op : Op} {ty : TypeId} {x : IX} {d : Option Nat} {K : St → Prop} (hd : dstOK n d = true) (hc : chkOp P op ty (.cvtRow x) = true) (hw : iwp P (.cvtRow x) d σ K) : Eff P G n w a op ty d K := by
  cases op <;> first | (simp [chkOp] at hc; done) | skip
  rename_i s t y
  cases x with
  | c _ => simp [chkOp] at hc
  | t i =>
  simp only [chkOp, Bool.and_eq_true, beq_iff_eq] at hc
  obtain ⟨⟨hy, rfl⟩, hc⟩ := hc
  split at hc <;> try (cases hc; done)
  rename_i e ht
  split at hc <;> try (cases hc; done)
  rename_i he
  have hw' : prK σ d K (rowV (xg true σ (.t i))) := hw
  -- the slot's own row
  have hrow : ∃ m cs, xg true σ (.t i) = .sl true 1 (m + 1) cs ∧ K (σ.put d (.sl false 1 (m + 1) cs)) := by
    generalize xg true σ (.t i) = xv at hw'
    unfold rowV at hw'
    split at hw'
    · exact ⟨_, _, rfl, hw'⟩
    · exact hw'.elim
  obtain ⟨m, cs, hx, hK⟩ := hrow
  have hx' : look σ.e i = .sl true 1 (m + 1) cs ∨ look σ.e i = .when true (.sl true 1 (m + 1) cs) := by
    have hx2 : unw true (look σ.e i) = .sl true 1 (m + 1) cs := hx
    generalize look σ.e i = av at hx2
    cases av <;> first | exact .inl hx2 | skip
    rename_i b a'
    have hx2 : (bif (b == true || b) && inner a' then a' else .undef) = .sl true 1 (m + 1) cs := hx2
    cases b with
    | false => simp at hx2
    | true =>
      refine .inr ?_
      cases hin : inner a' with
      | false => rw [hin] at hx2; simp at hx2
      | true => rw [hin] at hx2; simp at hx2; rw [hx2]
  have hin : i < n := h.lt_of (fun e => by rcases hx' with h' | h' <;> rw [h'] at e <;> cases e)
  have hey : a.tmps[i]? = some (a.eval y) := by
    have hyy : y = .tmp i := by
      cases y <;> simp [chkX] at hy
      rw [hy]
    subst hyy
    exact eval_some (by rw [h.size]; exact hin)
  have hsl : VR w G.R (.sl true 1 (m + 1) cs) (a.eval y) ∧ OwnR G w (.slot i 0) (.sl true 1 (m + 1) cs) (a.eval y) := by
    have hs := h.slots i _ hey
    rcases hx' with h' | h' <;> rw [h'] at hs
    · exact hs
    · exact hs.1 rfl
  obtain ⟨hvr, hown⟩ := hsl
  rcases VR.inv_sl hvr with ⟨_, hm0, _⟩ | ⟨b0, off0, cap0, e1, hl, hR, hcap, hat⟩
  · omega
  obtain ⟨b, off, c, et, fz, q1, q2, q3, q4, q5, q6⟩ := hown _ _ _ e1 (.inr (by omega))
  injection q1 with q1; injection q1 with q1 q1' _
  subst q1; subst q1'
  let fz' : Nat × Nat := if fz.1 == fz.2 then (c.size, c.size + 1) else (min fz.1 c.size, max fz.2 (c.size + 1))
  let w' : World := w.freeze ⟨b0, c.size, none⟩ 1
  have hlt : b0 < w.heap.size := (Array.getElem?_eq_some_iff.1 q4).1
  have hb0 : w'.heap[b0]? = some (.cells c et fz') := by
    show (w.freeze ⟨b0, c.size, none⟩ 1).heap[b0]? = _
    unfold World.freeze
    simp only [Nat.succ_ne_self, if_false, Array.getElem?_modify, if_true, q4, Option.map_some]
    rfl
  have hoth : ∀ k, k ≠ b0 → w'.heap[k]? = w.heap[k]? := by
    intro k hk
    show (w.freeze ⟨b0, c.size, none⟩ 1).heap[k]? = _
    unfold World.freeze
    simp only [Nat.succ_ne_self, if_false, Array.getElem?_modify]
    rw [if_neg (Ne.symm hk)]
  have hsz : w'.heap.size = w.heap.size := by
    show (w.freeze ⟨b0, c.size, none⟩ 1).heap.size = _
    unfold World.freeze
    simp
  have hcell : ∀ b k, w'.cell? ⟨b, k, none⟩ = w.cell? ⟨b, k, none⟩ := by
    intro k j
    by_cases hk : k = b0
    · subst hk
      unfold World.cell?
      simp only [hb0, q4]
    · exact World.cell?_of_block (hoth k hk)
  have hfz : ∀ k, k < c.size → ¬ (fz'.1 ≤ k ∧ k < fz'.2) := by
    intro k hk
    show ¬ ((if fz.1 == fz.2 then (c.size, c.size + 1) else (min fz.1 c.size, max fz.2 (c.size + 1)) : Nat × Nat).1 ≤ k ∧ k < (if fz.1 == fz.2 then (c.size, c.size + 1) else (min fz.1 c.size, max fz.2 (c.size + 1)) : Nat × Nat).2)
    by_cases hf : fz.1 = fz.2
    · simp only [hf, beq_self_eq_true, if_true]; omega
    · have : (fz.1 == fz.2) = false := by simpa using hf
      rw [this]
      simp only [Bool.false_eq_true, if_false]
      intro hh
      have q7 := q6.2
      by_cases hc2 : fz.1 < c.size
      · exact q6.1 fz.1 hc2 ⟨Nat.le_refl _, by omega⟩
      · omega
  have hfz2 : fz'.1 ≤ fz'.2 := by
    show (if fz.1 == fz.2 then (c.size, c.size + 1) else (min fz.1 c.size, max fz.2 (c.size + 1)) : Nat × Nat).1 ≤ (if fz.1 == fz.2 then (c.size, c.size + 1) else (min fz.1 c.size, max fz.2 (c.size + 1)) : Nat × Nat).2
    split
    · show c.size ≤ c.size + 1; omega
    · show min fz.1 c.size ≤ max fz.2 (c.size + 1); omega
  have hp : Pres G w G w' := ⟨rfl, rfl, rfl, by rw [hsz]; exact Nat.le_refl _, fun _ _ => Nat.le_refl _, fun b k _ _ => hcell b k, fun b _ hb => hoth b (fun e => by subst e; rw [q2] at hb; rcases hb with hb | hb <;> cases hb), fun _ _ h => ⟨h, rfl⟩, fun _ _ h => ⟨h, rfl⟩⟩
  have hne : ∀ k, G.O k ≠ .slot i 0 → w'.heap[k]? = w.heap[k]? := fun k hk => hoth k fun e => hk (by rw [e]; exact q2)
  have hI : Inv G n σ a w' := by
    refine ⟨⟨fun c hc => h.good.newO c (by rw [hsz] at hc; exact hc), fun c hc => h.good.newR c (by rw [hsz] at hc; exact hc)⟩, ?_, h.size, fun k v hk => ?_, h.dom, h.lps, h.def0⟩
    · exact h.store.mono h.good hp (fun b hb => ⟨hb, rfl, hne b (by rw [hb]; simp)⟩) (fun b c j _ hc => ⟨hc, rfl, hne c (by rw [hc]; simp)⟩)
    · by_cases hki : k = i
      · subst hki
        have hv : v = a.eval y := by rw [hey] at hk; exact (Option.some.inj hk).symm
        subst hv
        have hO : OwnR G w' (.slot k 0) (.sl true 1 (m + 1) cs) (a.eval y) := by
          intro base m' cap' hv hc
          rw [e1] at hv
          injection hv with v1 v2 v3
          exact ⟨b0, off0, c, et, fz', v1.symm, q2, q3, hb0, by rw [q5, v3], hfz, hfz2⟩
        have hV : ValS G w' σ.e a.tmps k (.sl true 1 (m + 1) cs) (a.eval y) := ⟨hp.vr h.good hvr, hO⟩
        rcases hx' with h' | h' <;> rw [h']
        · exact hV
        · exact ⟨fun _ => hV, fun h => by cases h⟩
      · exact ValS.frame (fun _ _ hv => hp.vr h.good hv) (fun c hc => ⟨rfl, rfl, hne c (by rcases hc with ⟨j, hc⟩ | hc <;> rw [hc] <;> simp [hki])⟩) (fun c c' j _ hc => ⟨hc, rfl, hne c' (by rw [hc]; simp)⟩) _ _ (fun d _ cs hcs => ⟨cs, hcs, rfl⟩) (h.slots k v hk)
  have hfin : Inv G n (σ.put d (.sl false 1 (m + 1) cs)) (a.put d (a.eval y)) w' := hI.putPlain hd (av := .sl true 1 (m + 1) cs) rfl (hp.vr h.good hvr)
  intro pos after gd next Q hn
  refine wp_value (v := a.eval y) (w' := w') ?_ (hn G _ _ _ hfin hp hK)
  have hshape : w.shape? b0 = some (et, c.size) := by
    unfold World.shape?
    rw [q4]
  have hconv : (convert s s (.slice (some ⟨b0, off0, none⟩) (m + 1) cap0)).run P w = .ok (.slice (some ⟨b0, off0, none⟩) (m + 1) cap0) w' := by
    simp [convert, run_underlying ht, run_underlying he, markStringish, hshape]
    rfl
  simp [execOp, e1, hconv]

theorem eff_movT (h : Inv G n σ a w) {op : Op} {ty : TypeId} {x : IX} {d : Option Nat} {K : St → Prop} (hd : dstOK n d = true) (hc : chkOp P op ty (.movT x) = true) (hw : iwp P (.movT x) d σ K) : Eff P G n w a op ty d K := by
  have hw' : prK σ d K (tupV (xg true σ x)) := hw
  have key : ∀ y, chkX y x = true → ∃ vs, K (σ.put d (.tup (views vs))) ∧ Inv G n (σ.put d (.tup (views vs))) (a.put d (a.eval y)) w := by
    intro y hy
    have hb := BR.of_inv h hy
    generalize xg true σ x = xv at hb hw'
    unfold tupV at hw'
    split at hw' <;> try (exact hw'.elim)
    rename_i vs
    refine ⟨vs, hw', ?_⟩
    obtain ⟨ys, e, hl, hr⟩ := VR.inv_tup (show VR w G.R (.tup vs) (a.eval y) from hb)
    have := h.put (s' := σ.s) (lp' := σ.lp) d (fun i hi => by subst hi; simpa [dstOK] using hd) (.tup (views vs)) (a.eval y) h.good (Pres.refl G w) h.store (fun _ hx => hx) (fun i t _ ht => ht.elim) (fun i t _ ⟨cs, hcs⟩ => by cases hcs)
      (fun _ _ _ _ => ⟨rfl, rfl, rfl⟩) (fun _ _ _ _ _ _ hcc => ⟨hcc, rfl, rfl⟩) (fun i hdi => ⟨ys, e, by simpa [views] using hl, fun j x y hx hy => by
        rw [views_get] at hx
        cases hj : vs[j]? with
        | none => rw [hj] at hx; cases hx
        | some c =>
          rw [hj] at hx
          simp at hx
          subst hx
          exact ⟨(hr j c y hj hy).view, OwnR.view ..⟩⟩)
    cases d <;> exact this
  intro pos after g next Q hn
  cases op <;> first | (simp [chkOp] at hc; done) | skip
  · rename_i y
    obtain ⟨vs, h1, h2⟩ := key y hc
    exact wp_value rfl (hn G _ _ _ h2 (Pres.refl G w) h1)
  · rename_i y
    obtain ⟨vs, h1, h2⟩ := key y hc
    exact wp_value rfl (hn G _ _ _ h2 (Pres.refl G w) h1)
end
end Go.AB
