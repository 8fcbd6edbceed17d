/- The abstract layer, part 13: slices that are made and grown; conversions. -/
import Derived.Test.YtbinmjafmcaehaaAb12
import Derived.Laws.BytesString
import Derived.Laws.BytesArg
namespace Go.AB
open Go

section
variable {P : Program} {G G' : Gh} {n : Nat} {σ : St} {a : Act} {w w' : World}

/-- A new row that nobody owns: its first cells never change. -/
theorem Inv.newSl (h : Inv G n σ a w) {d : Option Nat} (hd : dstOK n d = true) {sz m cap : Nat} {cs : List AV} {c : Array Value} {t : TypeId} {ob : Owner} (hob : ∀ i, d = some i → ob = .slot i 0) (hobn : d = none → ob = .none)
    (hl : cs.length = m * sz) (hcap : m ≤ cap) (hsz : c.size = cap * sz) (hfl : Fl cs)
    (hcs : ∀ (j : Nat) (x : AV), cs[j]? = some x → ∃ y, c[j]? = some y ∧ VR w G.R x y) (fz : Nat × Nat) (hfz : (∀ k, k < c.size → ¬ (fz.1 ≤ k ∧ k < fz.2)) ∧ fz.1 ≤ fz.2) :
    ∃ G', Inv G' n (σ.put d (.sl true sz m cs)) (a.put d (.slice (some ⟨w.heap.size, 0, none⟩) m cap)) (w.alloc (.cells c t fz)) ∧ Pres G w G' (w.alloc (.cells c t fz)) := by
  have hp := (alloc_facts h.good (.cells c t fz) ob cs.length).2.1
  obtain ⟨h1, h2⟩ := h.alloc (.cells c t fz) ob cs.length d hd (.sl true sz m cs) (.slice (some ⟨w.heap.size, 0, none⟩) m cap) σ.lp (alloc_store h.store h.good _ ob cs.length) (fun _ hx => hx) (fun i t' _ ht => ht.elim)
    (fun i t' _ ⟨cs', hcs'⟩ => by cases hcs')
    (fun i hi => by
      refine ⟨?_, ?_⟩
      · refine .sl true sz m cs w.heap.size 0 cap (fun j => c.getD j undef) hfl hl (by simp) hcap (fun j x hj => ?_) (fun j x hj => ?_)
        · obtain ⟨y, hy, _⟩ := hcs j x hj
          rw [Nat.zero_add, cell_of_row _ (heap_alloc_new w _), hy]
          simp [Array.getD_eq_getD_getElem?, hy]
        · obtain ⟨y, hy, hv⟩ := hcs j x hj
          have : c.getD j undef = y := by simp [Array.getD_eq_getD_getElem?, hy]
          rw [this]
          exact hp.vr h.good hv
      · intro base m' cap' hv hc
        injection hv with e1 e2 e3
        subst e3
        exact ⟨w.heap.size, 0, c, t, fz, e1.symm, by simp [hob i hi], by simp [hl], heap_alloc_new w _, by rw [hsz, Nat.zero_add], hfz⟩)
  exact ⟨_, by cases d <;> exact h1, h2⟩

theorem flatten_rep (l : List Value) : ∀ (m : Nat), ((List.replicate m l).flatten) = ((List.range (m * l.length)).map fun i => l.getD (i % l.length) undef) := by
  intro m
  apply List.ext_getElem?
  intro j
  rcases Nat.eq_zero_or_pos l.length with h0 | hp
  · have : l = [] := List.eq_nil_of_length_eq_zero h0
    subst this
    simp
  · induction m generalizing j with
    | zero => simp
    | succ m ih =>
      rw [List.replicate_succ, List.flatten_cons]
      by_cases hj : j < l.length
      · rw [List.getElem?_append_left hj, List.getElem?_map, List.getElem?_range (by rw [Nat.add_mul, Nat.one_mul]; omega)]
        simp [Nat.mod_eq_of_lt hj, List.getD_eq_getElem?_getD, List.getElem?_eq_getElem hj]
      · rw [List.getElem?_append_right (by omega), ih, List.getElem?_map, List.getElem?_map]
        by_cases hlt : j < (m + 1) * l.length
        · have h1 : j - l.length < m * l.length := by rw [Nat.add_mul, Nat.one_mul] at hlt; omega
          rw [List.getElem?_range hlt, List.getElem?_range h1]
          simp only [Option.map_some]
          congr 2
          rw [Nat.mod_eq_sub_mod (by omega : l.length ≤ j)]
        · have h1 : ¬ (j - l.length < m * l.length) := by rw [Nat.add_mul, Nat.one_mul] at hlt; omega
          rw [List.getElem?_eq_none (by simp; omega), List.getElem?_eq_none (by simp; omega)]

theorem zero_row (z : Array Value) (m : Nat) : ((Array.range (m * z.size)).map fun i => z[i % z.size]!) = ((List.replicate m z.toList).flatten).toArray := by
  rw [flatten_rep]
  apply Array.ext'
  simp only [Array.toList_map, Array.toList_range, Array.length_toList]
  apply List.map_congr_left
  intro i hi
  have hlt : i < m * z.size := by simpa using hi
  have hz : 0 < z.size := by
    rcases Nat.eq_zero_or_pos z.size with h | h
    · rw [h, Nat.mul_zero] at hlt; omega
    · exact h
  have hm := Nat.mod_lt i hz
  rw [getElem!_pos z (i % z.size) hm]
  simp [List.getD_eq_getElem?_getD, hm]

theorem eff_buildSl (h : Inv G n σ a w) {op : Op} {ty : TypeId} {sz m : Nat} {z : List AV} {ps : List (Nat × Nat × IX)} {d : Option Nat} {K : St → Prop} (hd : dstOK n d = true) (hc : chkOp P op ty (.buildSl sz m z ps) = true) (hw : iwp P (.buildSl sz m z ps) d σ K) : Eff P G n w a op ty d K := by
  cases op <;> first | (simp [chkOp] at hc; done) | skip
  rename_i t m' qs
  simp only [chkOp, Bool.and_eq_true, beq_iff_eq] at hc
  obtain ⟨rfl, hc⟩ := hc
  split at hc <;> try (cases hc; done)
  rename_i e ht
  have ht := elemOfSl_eq ht
  simp only [Bool.and_eq_true] at hc
  obtain ⟨⟨⟨⟨hs, hpos⟩, hp⟩, hlim⟩, hz⟩ := hc
  obtain ⟨i, hi, hisz⟩ := sizeIs_eq hs
  rw [hi] at hz
  simp only at hz
  split at hz <;> try (cases hz; done)
  rename_i zv hzv
  simp only [Bool.and_eq_true, beq_iff_eq] at hz
  obtain ⟨hzr, hzs⟩ := hz
  have hpos := of_decide_eq_true hpos
  have hlim := of_decide_eq_true hlim
  have hw' : buildSlW sz m σ d K (fill (xg true σ) z ps) := hw
  cases hfl : fill (xg true σ) z ps with
  | none => rw [hfl] at hw'; exact hw'.elim
  | some ds =>
    rw [hfl] at hw'
    obtain ⟨hlen, hk⟩ := hw'
    obtain ⟨hl, hpa⟩ := partsA_all _ _ hp
    obtain ⟨hz1, hz2⟩ := cRs_get hzr
    have hrow : Row w G.R z ((Array.range (m * sz)).map (zv.cells[· % zv.cells.size]!)) := by
      rw [← hzs, zero_row]
      exact ⟨by simpa using hz1, fun j c u hc hu => cR_vr (hz2 j c u hc (by simpa using hu)) w G.R, cRs_fl hzr⟩
    have hf : ∀ (o : Operand) (x : IX), chkX o x = true → isV (xg true σ x) = true → VR w G.R (xg true σ x) (a.eval o) := fun o x hx hi => by
      have := BR.of_inv h hx
      generalize xg true σ x = av at hi this
      cases av <;> first | exact this | (simp [isV] at hi)
    obtain ⟨us, h1, h2⟩ := fill_sound h hf (fun i => some (i * sz, sz)) qs.toList ps z ds _ ⟨hl, fun j q p hq hp' => by
        obtain ⟨⟨e1, e2⟩, hx⟩ := hpa j q p hq hp'
        exact ⟨by rw [e1, e2], hx⟩⟩ hrow hfl
    obtain ⟨G1, h3, h4⟩ := h.newSl (t := e) (ob := match d with | some i => .slot i 0 | none => .none) hd (fun i hi => by subst hi; rfl) (fun hn => by subst hn; rfl) hlen (Nat.le_refl m) (by rw [h2.1, hlen]) h2.2.2
      (fun j x hx => by
        have hlt : j < us.size := by rw [h2.1]; exact (List.getElem?_eq_some_iff.1 hx).1
        exact ⟨us[j], Array.getElem?_eq_getElem hlt, h2.2.1 j x _ hx (Array.getElem?_eq_getElem hlt)⟩) (0, 0) ⟨fun k _ hk => by simp at hk, Nat.le_refl _⟩
    intro pos after gd next Q hn
    refine wp_value ?_ (hn G1 _ _ _ h3 h4 hk)
    by_cases hm0 : m * sz = 0
    · have hm : m = 0 := by
        rcases Nat.mul_eq_zero.1 hm0 with h | h
        · exact h
        · omega
      subst hm
      simp only [Nat.zero_mul] at h1
      have : (Array.range 0).map (zv.cells[· % zv.cells.size]!) = #[] := by simp
      rw [this] at h1
      have hr0 : Array.map (fun _ : Nat => (default : Value)) (Array.range 0) = #[] := by apply Array.ext'; simp
      simp [execOp, Instr.buildSlice, run_underlying ht, run_sizeOf hs, hr0, h1, newRow]
    · have h24 : ¬ (16777216 < m * sz) := by omega
      simp [execOp, Instr.buildSlice, run_underlying ht, run_sizeOf hs, h24, hm0, zeroValue, typeInfo, hi, hzv, h1, newRow]

theorem bytes_fl (s : List UInt8) : Fl (s.map fun c => AV.int .u8 c.toNat) := by
  intro c hc
  simp only [List.mem_map] at hc
  obtain ⟨x, _, rfl⟩ := hc
  rfl

theorem eff_cvtStr (h : Inv G n σ a w) {op : Op} {ty : TypeId} {x : IX} {d : Option Nat} {K : St → Prop} (hd : dstOK n d = true) (hc : chkOp P op ty (.cvtStr x) = true) (hw : iwp P (.cvtStr x) d σ K) : Eff P G n w a op ty d K := by
  cases op <;> first | (simp [chkOp] at hc; done) | skip
  rename_i s t y
  simp only [chkOp, Bool.and_eq_true] at hc
  obtain ⟨hy, hc⟩ := hc
  split at hc <;> try (cases hc; done)
  rename_i e hs ht
  split at hc <;> try (cases hc; done)
  rename_i he
  have hb := BR.of_inv h hy
  have hw' : cvtStrW σ d K (xg true σ x) := hw
  generalize xg true σ x = xv at hb hw'
  unfold cvtStrW at hw'
  split at hw' <;> try (exact hw'.elim)
  rename_i ow sz m cs
  obtain ⟨rfl, l, rfl, hk⟩ := hw'
  have hput : Inv G n (σ.put d (.str l)) (a.put d (.string ⟨l.toArray⟩)) w := by
    have := h.put (s' := σ.s) (lp' := σ.lp) d (fun i hi => by subst hi; simpa [dstOK] using hd) (.str l) (.string ⟨l.toArray⟩) h.good (Pres.refl G w) h.store (fun _ hx => hx) (fun i t _ ht => ht.elim) (fun i t _ ⟨cs, hcs⟩ => by cases hcs)
      (fun _ _ _ _ => ⟨rfl, rfl, rfl⟩) (fun _ _ _ _ _ _ hcc => ⟨hcc, rfl, rfl⟩) (fun i hdi => ⟨.str l, trivial⟩)
    cases d <;> exact this
  intro pos after gd next Q hn
  refine wp_value (v := .string ⟨l.toArray⟩) ?_ (hn G _ _ _ hput (Pres.refl G w) hk)
  rcases VR.inv_sl hb with ⟨e1, _, hl0⟩ | ⟨b, off, cap, e1, hlen, _, _, u, u1, u2, _⟩
  · have : l = [] := by simpa using hl0
    subst this
    have := run_convert_bytes_nil (P := P) w s e hs he 0 0 t ht
    simp [execOp, e1, this]
    rfl
  · have hm : l.length = m := by simpa using hlen
    have := run_convert_bytes_arg (P := P) w s e hs he b off m cap (l.map fun c => (c.toNat : Int)) (by simpa using hm) (fun i hi => by
      have hil : i < l.length := by omega
      have hc0 : (l.map fun c => AV.int .u8 c.toNat)[i]? = some (.int .u8 l[i].toNat) := by simp [hil]
      rw [u1 i _ hc0, VR.inv_int (u2 i _ hc0)]
      simp [List.getD_eq_getElem?_getD, hil]) t ht
    have hs2 : strOfNums (l.map fun c => (c.toNat : Int)) = ⟨l.toArray⟩ := by
      unfold strOfNums
      congr 2
      simp [Function.comp_def]
    rw [hs2] at this
    simp [execOp, e1, this]

theorem Pres.drew (G : Gh) (w : World) : Pres G w G w.drew := ⟨rfl, rfl, rfl, Nat.le_refl _, fun _ _ => Nat.le_refl _, fun _ _ _ _ => rfl, fun _ _ _ => rfl, fun _ _ h => ⟨h, rfl⟩, fun _ _ h => ⟨h, rfl⟩⟩

theorem Inv.drew (h : Inv G n σ a w) : Inv G n σ a w.drew := by
  have hg : GoodW G w.drew := ⟨h.good.newO, h.good.newR⟩
  have := h.put (s' := σ.s) (lp' := σ.lp) none (fun i hi => by cases hi) .undef undef hg (Pres.drew G w) (h.store.mono h.good (Pres.drew G w) (fun _ hb => ⟨hb, rfl, rfl⟩) (fun _ _ _ _ hc => ⟨hc, rfl, rfl⟩)) (fun _ hx => hx) (fun i t hi => by cases hi) (fun i t hi => by cases hi)
    (fun _ _ _ _ => ⟨rfl, rfl, rfl⟩) (fun _ _ _ _ _ _ hcc => ⟨hcc, rfl, rfl⟩) (fun i hi => by cases hi)
  exact this

theorem eff_cvtBytes (h : Inv G n σ a w) {op : Op} {ty : TypeId} {x : IX} {d : Option Nat} {K : St → Prop} (hd : dstOK n d = true) (hc : chkOp P op ty (.cvtBytes x) = true) (hw : iwp P (.cvtBytes x) d σ K) : Eff P G n w a op ty d K := by
  cases op <;> first | (simp [chkOp] at hc; done) | skip
  rename_i s t y
  simp only [chkOp, Bool.and_eq_true] at hc
  obtain ⟨hy, hc⟩ := hc
  split at hc <;> try (cases hc; done)
  rename_i e hs ht
  split at hc <;> try (cases hc; done)
  rename_i he
  have hb := BR.of_inv h hy
  have hw' : cvtBytesW σ d K (xg true σ x) := hw
  generalize xg true σ x = xv at hb hw'
  unfold cvtBytesW at hw'
  split at hw' <;> try (exact hw'.elim)
  rename_i l
  have e1 := VR.inv_str hb
  have hk : K (σ.put d (.sl true 1 l.length (l.map fun c => .int .u8 c.toNat))) := hw'
  let cap := (Question.appendCap l.length 0 e).cut (w.tape w.drawn (.appendCap l.length 0 e))
  have hcap : l.length ≤ cap := Nat.le_add_right _ _
  let c : Array Value := (l.toArray.map fun b => Value.int .u8 b.toNat) ++ Array.replicate (cap - l.length) (.int .u8 0)
  have hcs : c.size = cap := by simp [c]; omega
  obtain ⟨G1, h3, h4⟩ := (h.drew).newSl (t := e) (c := c) (m := l.length) (cs := l.map fun c => AV.int .u8 c.toNat) (cap := cap) (sz := 1) (ob := match d with | some i => .slot i 0 | none => .none) hd (fun i hi => by subst hi; rfl) (fun hn => by subst hn; rfl) (by simp) hcap (by rw [hcs]; simp) (bytes_fl l)
    (fun j x hx => by
      rw [List.getElem?_map] at hx
      cases hj : l[j]? with
      | none => rw [hj] at hx; cases hx
      | some b0 =>
        rw [hj] at hx; simp at hx
        have hlt : j < l.length := (List.getElem?_eq_some_iff.1 hj).1
        refine ⟨.int .u8 b0.toNat, ?_, by rw [← hx]; exact .int _ _⟩
        have hjb : l[j] = b0 := by simpa [hlt] using hj
        simp [c, Array.getElem?_append, hlt, hjb]) (c.size, c.size + 1) ⟨fun k hk hh => by omega, Nat.le_succ _⟩
  intro pos after gd next Q hn
  refine wp_value (w' := (w.drew).alloc (.cells c e (c.size, c.size + 1))) ?_ (hn G1 _ _ _ h3 ((Pres.drew G w).trans h4) hk)
  have hsz : (ByteArray.mk l.toArray).size = l.length := by simp [ByteArray.size]
  have hconv : (Conv.stringToBytes e ⟨l.toArray⟩).run P w = .ok (.slice (some ⟨w.heap.size, 0, none⟩) l.length cap) ((w.drew).alloc (.cells c e (c.size, c.size + 1))) := by
    have hfr : ∀ (w0 : World), (w0.alloc (.cells c e)).freeze { block := w0.heap.size, off := c.size } 1 = w0.alloc (.cells c e (c.size, c.size + 1)) := by
      intro w0
      unfold World.freeze World.alloc
      simp only [Nat.succ_ne_self, if_false]
      congr 1
      apply Array.ext
      · simp
      · intro k h1 h2
        simp only [Array.getElem_modify, Array.getElem_push]
        by_cases hk : k < w0.heap.size
        · have : w0.heap.size ≠ k := by omega
          simp [hk, this]
        · have : k = w0.heap.size := by simp at h1; omega
          subst this
          simp
    have hshape : ((w.drew).alloc (.cells c e)).shape? w.heap.size = some (e, c.size) := by
      unfold World.shape?
      rw [show ((w.drew).alloc (.cells c e)).heap[w.heap.size]? = some (.cells c e) from heap_alloc_new w.drew _]
    simp only [Conv.stringToBytes, Sem.run_bind, run_choose, Question.forced, hsz, Bool.false_eq_true, if_false, Result.andThen_ok, newRow, run_newObj, Sem.run_pure, markStringish, run_shape]
    show ((Sem.run P (match ((w.drew).alloc (.cells c e)).shape? w.heap.size with | some (_, n) => freeze { block := w.heap.size, off := n } 1 | x => pure ()) ((w.drew).alloc (.cells c e))).andThen fun a w' => Result.ok (Value.slice (some { block := w.heap.size, off := 0 }) l.length cap) w') = _
    rw [hshape]
    simp only [run_freeze, Result.andThen_ok]
    exact congrArg _ (hfr w.drew)
  simp [execOp, e1, convert, underlying, hs, ht, he, hconv]
end
end Go.AB
