/- The abstract layer, part 8: loads, fields, elements, slices, lengths. -/
import Derived.Test.YtbinmjafmcaehaaAb7
namespace Go.AB
open Go

theorem add_eq (b off i : Nat) : (⟨b, off, none⟩ : Addr).add i = ⟨b, off + i, none⟩ := by
  unfold Addr.add
  by_cases h : i = 0 <;> simp [h]

theorem cell_of_row (w : World) {b : Nat} {c : Array Value} {t : TypeId} {fr : Nat × Nat} (hg : w.heap[b]? = some (.cells c t fr)) (j : Nat) : w.cell? ⟨b, j, none⟩ = c[j]? := by
  unfold World.cell?
  rw [hg]; simp

theorem sub_get (cs : List AV) (off n j : Nat) : (sub cs off n)[j]? = if j < n then cs[off + j]? else none := by
  unfold sub
  rw [List.getElem?_take]
  split
  · rw [List.getElem?_drop]
  · rfl

theorem views_get (cs : List AV) (j : Nat) : (views cs)[j]? = (cs[j]?).map view := by simp [views]

section
variable {P : Program} {G : Gh} {n : Nat} {σ : St} {a : Act} {w : World}

theorem At.views {R : Nat → Nat} {b off : Nat} {cs : List AV} (h : At w R b off cs) : At w R b off (views cs) := by
  obtain ⟨u, h1, h2, hf⟩ := h
  refine ⟨u, fun j c hj => ?_, fun j c hj => ?_, hf.views⟩ <;> rw [views_get] at hj <;> cases hc : cs[j]? <;> rw [hc] at hj <;> simp at hj
  · exact h1 j _ hc
  · rw [← hj]; exact (h2 j _ hc).view

theorem At.sub {R : Nat → Nat} {b off : Nat} {cs : List AV} (h : At w R b off cs) (o n : Nat) : At w R b (off + o) (sub cs o n) := by
  obtain ⟨u, h1, h2, hf⟩ := h
  refine ⟨fun j => u (o + j), fun j c hj => ?_, fun j c hj => ?_, hf.sub o n⟩ <;> rw [sub_get] at hj <;> split at hj <;> try (cases hj; done)
  · rw [Nat.add_assoc]; exact h1 _ c hj
  · exact h2 _ c hj

theorem At.of_cells {b : Nat} {cs : List AV} {c : Array Value} {t : TypeId} {fr : Nat × Nat} {o : Nat → Owner} (hh : w.heap[b]? = some (.cells c t fr)) (hc : CellsR G w o cs c) (hf : Fl cs) : At w G.R b 0 cs := by
  refine ⟨fun j => c.getD j undef, fun j x hj => ?_, fun j x hj => ?_, hf⟩
  all_goals
    have hlt : j < c.size := by rw [hc.1]; exact (List.getElem?_eq_some_iff.1 hj).1
    have hcj : c[j]? = some (c.getD j undef) := by simp [Array.getD_eq_getD_getElem?, hlt]
  · rw [Nat.zero_add, cell_of_row w hh, hcj]
  · exact (hc.2 j x _ hj hcj).1

theorem rdCells_eq {n off : Nat} {cs ds : List AV} (h : rdCells n off cs = some ds) : off + n ≤ cs.length ∧ ds = views (sub cs off n) := by
  unfold rdCells at h
  by_cases hl : off + n ≤ cs.length
  · rw [decide_eq_true hl] at h; injection h with h; exact ⟨hl, h.symm⟩
  · rw [decide_eq_false hl] at h; cases h

theorem len_sub {cs : List AV} {off n : Nat} (h : off + n ≤ cs.length) : (AB.sub cs off n).length = n := by
  unfold AB.sub; simp; omega

/-- What a pointer leads to. -/
theorem rd_sound (h : Inv G n σ a w) {x : IX} {p : AV} {v : Value} (hb : BR G w σ a x p v) {m : Nat} {cs : List AV} (hr : rd σ p m = some cs) :
    ∃ b off, v = .pointer (some ⟨b, off, none⟩) ∧ cs.length = m ∧ At w G.R b off cs ∧ views cs = cs := by
  have vv : ∀ l : List AV, views (views l) = views l := fun l => by simp [views, view_view, Function.comp_def]
  unfold rd at hr
  split at hr
  · rename_i ds
    obtain ⟨hl, rfl⟩ := rdCells_eq hr
    obtain ⟨i, b, c, t, _, _, _, hv, _, _, hh, hc, hfl⟩ := hb
    have hat := ((At.of_cells hh hc hfl).sub 0 m).views
    simp only [Nat.add_zero] at hat
    exact ⟨b, 0, hv, by simp [AB.views, len_sub hl], hat, vv _⟩
  · rename_i d off
    unfold rdLoc at hr
    split at hr
    · rename_i ds hd
      obtain ⟨hl, rfl⟩ := rdCells_eq hr
      obtain ⟨b, hv, ht⟩ := hb
      have ht := ht ds hd
      have hs := h.slots d _ ht
      rw [hd] at hs
      obtain ⟨b', c, t, h1, h2, h3, h4, h5, h6⟩ := hs
      injection h1 with h1; injection h1 with h1; injection h1 with h1 _ _
      subst h1
      have hat := ((At.of_cells h4 h5 h6).sub off m).views
      rw [Nat.zero_add] at hat
      exact ⟨b, off, hv, by simp [AB.views, len_sub hl], hat, vv _⟩
    · cases hr
  · rename_i ds
    obtain ⟨hl, rfl⟩ := rdCells_eq hr
    obtain ⟨b, off, hv, hR, hat⟩ := VR.inv_sp hb
    have hat := (hat.sub 0 m).views
    exact ⟨b, off, hv, by simp [AB.views, len_sub hl], hat, vv _⟩
  · rename_i b off
    unfold rdSO at hr
    split at hr
    · rename_i ds hs
      obtain ⟨hl, rfl⟩ := rdCells_eq hr
      have hv := VR.inv_ref hb
      obtain ⟨h1, h2, c, t, h3, h4, h5⟩ := h.store b _ hs
      have hat := ((At.of_cells h3 h4 h5).sub off m).views
      rw [Nat.zero_add] at hat
      exact ⟨b, off, hv, by simp [AB.views, len_sub hl], hat, vv _⟩
    · cases hr
  · cases hr

theorem sizeIs_eq {t : TypeId} {m : Nat} (h : sizeIs P t m = true) : ∃ i, P.info? t = some i ∧ i.size = m := by
  unfold sizeIs at h
  split at h
  · exact ⟨_, by assumption, by simpa using h⟩
  · cases h

theorem run_sizeOf {t : TypeId} {m : Nat} (h : sizeIs P t m = true) (w : World) : (sizeOf t).run P w = .ok m w := by
  obtain ⟨i, h1, h2⟩ := sizeIs_eq h
  simp [sizeOf, typeInfo, h1, h2]

theorem run_isAgg {t : TypeId} {multi : Bool} (h : aggIs P t multi = true) (w : World) : (isAgg t).run P w = .ok multi w := by
  unfold aggIs at h
  split at h
  · rename_i hh; subst h; simp [isAgg, underlying, hh]
  · rename_i hh; subst h; simp [isAgg, underlying, hh]
  · rename_i d h1 h2 hh
    have hm : multi = false := by simpa using h
    subst hm
    simp only [isAgg, underlying, run_program, Sem.run_bind, Result.andThen_ok, hh, Sem.run_pure]
  · cases h

theorem At.vals {R : Nat → Nat} {b off : Nat} {cs : List AV} (h : At w R b off cs) : ∃ us : List Value, us.length = cs.length ∧ (∀ (j : Nat) (v : Value), us[j]? = some v → w.cell? ((⟨b, off, none⟩ : Addr).add j) = some v) ∧
    (∀ (j : Nat) (c : AV) (v : Value), cs[j]? = some c → us[j]? = some v → VR w R c v) := by
  obtain ⟨u, h1, h2, _⟩ := h
  have key : ∀ (j : Nat) (v : Value), ((List.range cs.length).map u)[j]? = some v → ∃ hj : j < cs.length, v = u j := by
    intro j v hj
    rw [List.getElem?_map] at hj
    by_cases hlt : j < cs.length
    · rw [List.getElem?_range hlt] at hj; simp at hj; exact ⟨hlt, hj.symm⟩
    · rw [List.getElem?_eq_none (by simpa using hlt)] at hj; simp at hj
  refine ⟨(List.range cs.length).map u, by simp, fun j v hj => ?_, fun j c v hc hj => ?_⟩
  · obtain ⟨hlt, rfl⟩ := key j v hj
    rw [add_eq]
    exact h1 j cs[j] (List.getElem?_eq_getElem hlt)
  · obtain ⟨_, rfl⟩ := key j v hj
    exact h2 j c hc

/-- A variable of a type, loaded. -/
theorem loadVar_sound {R : Nat → Nat} {t : TypeId} {m : Nat} {multi : Bool} (hs : sizeIs P t m = true) (hm : aggIs P t multi = true) (h1 : (multi || m == 1) = true) {b off : Nat} {cs : List AV} (hl : cs.length = m) (hat : At w R b off cs) :
    ∃ v, (loadVar t ⟨b, off, none⟩).run P w = .ok v w ∧ VR w R (aggOf multi cs) v := by
  have hfl : Fl cs := by obtain ⟨_, _, _, hf⟩ := hat; exact hf
  obtain ⟨us, hul, hc, hv⟩ := hat.vals
  cases multi with
  | true =>
    have := run_loadCells_list (P := P) w ⟨b, off, none⟩ us hc
    rw [hul, hl] at this
    refine ⟨.agg us.toArray, by simp [loadVar, run_isAgg hm, run_sizeOf hs, this], ?_⟩
    show VR w R (.agg cs) _
    exact .agg cs us.toArray hfl (by simp [hul]) fun j c v hcj hvj => hv j c v hcj (by simpa using hvj)
  | false =>
    have hm1 : m = 1 := by simpa using h1
    subst hm1
    match cs, hl with
    | [c], _ =>
      match us, hul with
      | [u], _ =>
        have h0 := hc 0 u rfl
        rw [add_eq] at h0
        refine ⟨u, by simp [loadVar, run_isAgg hm, show (w.cell? ⟨b, off, none⟩) = some u from h0], hv 0 c u rfl rfl⟩

theorem ckV_ok {a av : AV} (h : POK (ckV a) av) : av = a ∧ isV a = true := by
  unfold ckV at h
  cases hi : isV a with
  | true => rw [hi] at h; exact ⟨h.tot, rfl⟩
  | false => rw [hi] at h; exact h.no.elim
theorem ckP_ok {c : Prop} {a av : AV} (h : POK (ckP c a) av) : av = a ∧ isV a = true ∧ c := by
  unfold ckP at h
  cases hi : isV a with
  | true => rw [hi] at h; exact ⟨h.prt.1, rfl, h.prt.2⟩
  | false => rw [hi] at h; exact h.no.elim

theorem view_aggOf {multi : Bool} {cs : List AV} (hv : views cs = cs) : AB.view (aggOf multi cs) = aggOf multi cs := by
  cases multi with
  | true => rfl
  | false => cases cs with
    | nil => rfl
    | cons c l => simp only [views, List.map_cons, List.cons.injEq] at hv; exact hv.1

theorem pv_load (h : Inv G n σ a w) {op : Op} {ty : TypeId} {m : Nat} {multi : Bool} {x : IX} (hc : chkOp P op ty (.load m multi x) = true) {av : AV} (hv : POK (pv (.load m multi x) (xg true σ) σ) av) :
    ∃ v, runs P a op ty w v ∧ NR G w σ a av v := by
  cases op <;> first | (simp [chkOp] at hc; done) | skip
  rename_i t y
  simp only [chkOp, Bool.and_eq_true] at hc
  obtain ⟨⟨⟨hs, hm⟩, h1⟩, hy⟩ := hc
  have hb := BR.of_inv h hy
  have hv' : POK (loadV multi (rd σ (xg true σ x) m)) av := hv
  cases hr : rd σ (xg true σ x) m with
  | none => rw [hr] at hv'; exact hv'.no.elim
  | some cs =>
    rw [hr] at hv'
    obtain ⟨rfl, hi⟩ := ckV_ok hv'
    obtain ⟨b, off, e, hl, hat, hvw⟩ := rd_sound h hb hr
    obtain ⟨v, hrun, hvr⟩ := loadVar_sound hs hm h1 hl hat
    exact ⟨v, fun _ _ _ _ => by simp [execOp, e, Instr.loadAt, Instr.sureAddr, hrun], NR.mk hi hvr (view_aggOf hvw)⟩

theorem part_sound {R : Nat → Nat} {t : TypeId} {m off : Nat} {multi : Bool} (hs : sizeIs P t m = true) (hm : aggIs P t multi = true) (h1 : (multi || m == 1) = true) {cs : List AV} {vs : Array Value} (hl : vs.size = cs.length)
    (hr : ∀ (j : Nat) (c : AV) (u : Value), cs[j]? = some c → vs[j]? = some u → VR w R c u) (hfl : Fl cs) (hfit : off + m ≤ cs.length) :
    ∃ v, (part t vs off).run P w = .ok v w ∧ VR w R (aggOf multi (AB.sub cs off m)) v := by
  cases multi with
  | true =>
    refine ⟨.agg (vs.extract off (off + m)), by simp [part, run_isAgg hm, run_sizeOf hs], ?_⟩
    show VR w R (.agg _) _
    refine .agg _ _ (hfl.sub off m) (by rw [len_sub hfit]; simp; omega) fun j c u hc hu => ?_
    rw [sub_get] at hc
    split at hc
    · rename_i hj
      refine hr (off + j) c u hc ?_
      rw [Array.getElem?_extract] at hu
      split at hu
      · exact hu
      · cases hu
    · cases hc
  | false =>
    have hm1 : m = 1 := by simpa using h1
    subst hm1
    have hlt : off < vs.size := by omega
    have hlt' : off < cs.length := by omega
    refine ⟨vs[off], by simp [part, run_isAgg hm, Array.getElem?_eq_getElem hlt], ?_⟩
    have : AB.sub cs off 1 = [cs[off]] := by
      unfold AB.sub
      rw [List.drop_eq_getElem_cons hlt']; rfl
    rw [this]
    exact hr off _ _ (List.getElem?_eq_getElem hlt') (Array.getElem?_eq_getElem hlt)

theorem pv_field (h : Inv G n σ a w) {op : Op} {ty : TypeId} {m off : Nat} {multi : Bool} {x : IX} (hc : chkOp P op ty (.field m multi off x) = true) {av : AV} (hv : POK (pv (.field m multi off x) (xg true σ) σ) av) :
    ∃ v, runs P a op ty w v ∧ NR G w σ a av v := by
  cases op <;> first | (simp [chkOp] at hc; done) | skip
  rename_i t y i
  simp only [chkOp, Bool.and_eq_true] at hc
  obtain ⟨hy, hc⟩ := hc
  split at hc <;> try (cases hc; done)
  rename_i fs ht
  split at hc <;> try (cases hc; done)
  rename_i f hf
  simp only [Bool.and_eq_true, beq_iff_eq] at hc
  obtain ⟨⟨⟨rfl, hs⟩, hm⟩, h1⟩ := hc
  have hb := BR.of_inv h hy
  have hv' : POK (fieldV m multi f.offset (xg true σ x)) av := hv
  generalize xg true σ x = xv at hb hv'
  unfold fieldV at hv'
  split at hv'
  · rename_i cs
    by_cases hfit : f.offset + m ≤ cs.length
    · rw [decide_eq_true hfit] at hv'
      obtain ⟨rfl, hi⟩ := ckV_ok hv'
      obtain ⟨vs, e, hl, hr, hfl⟩ := VR.inv_agg hb
      obtain ⟨v, hrun, hvr⟩ := part_sound hs hm h1 hl hr hfl hfit
      refine ⟨v, fun _ _ _ _ => by simp [execOp, e, Instr.field, underlying, ht, hf, asAgg, hrun], NR.mk hi hvr.view (view_view _)⟩
    · rw [decide_eq_false hfit] at hv'; exact hv'.no.elim
  · exact hv'.no.elim

theorem pv_index (h : Inv G n σ a w) {op : Op} {ty : TypeId} {m len : Nat} {multi : Bool} {x i : IX} (hc : chkOp P op ty (.index m multi len x i) = true) {av : AV} (hv : POK (pv (.index m multi len x i) (xg true σ) σ) av) :
    ∃ v, runs P a op ty w v ∧ NR G w σ a av v := by
  cases op <;> first | (simp [chkOp] at hc; done) | skip
  rename_i t y j
  simp only [chkOp, Bool.and_eq_true] at hc
  obtain ⟨⟨hy, hj⟩, hc⟩ := hc
  split at hc <;> try (cases hc; done)
  rename_i l e ht
  simp only [Bool.and_eq_true, beq_iff_eq] at hc
  obtain ⟨⟨⟨rfl, hs⟩, hm⟩, h1⟩ := hc
  have hb := BR.of_inv h hy
  have hbi := BR.of_inv h hj
  have hv' : POK (indexV m multi l (xg true σ x) (xg true σ i)) av := hv
  generalize xg true σ x = xv at hb hv'
  generalize xg true σ i = iv at hbi hv'
  unfold indexV at hv'
  split at hv'
  · rename_i cs k q
    cases hcl : l * m == cs.length with
    | false => rw [hcl] at hv'; exact hv'.no.elim
    | true =>
      rw [hcl] at hv'
      obtain ⟨rfl, hi, h0, hlt⟩ := ckP_ok hv'
      obtain ⟨vs, e1, hl, hr, hfl⟩ := VR.inv_agg hb
      have e2 : a.eval j = .int k q := VR.inv_int hbi
      have hfit : q.toNat * m + m ≤ cs.length := by
        rw [← beq_iff_eq.1 hcl]
        have : q.toNat + 1 ≤ l := by omega
        calc q.toNat * m + m = (q.toNat + 1) * m := by rw [Nat.add_mul, Nat.one_mul]
          _ ≤ l * m := Nat.mul_le_mul_right _ this
      obtain ⟨v, hrun, hvr⟩ := part_sound hs hm h1 hl hr hfl hfit
      refine ⟨v, fun _ _ _ _ => by simp [execOp, e1, e2, Instr.index, underlying, ht, asIntOf, h0, hlt, run_sizeOf hs, hrun], NR.mk hi hvr.view (view_view _)⟩
  · exact hv'.no.elim

theorem strT_eq {t : TypeId} (h : strT P t = true) : P.underlying t = some .string := by
  unfold strT at h
  split at h
  · assumption
  · cases h

theorem pv_sindex (h : Inv G n σ a w) {op : Op} {ty : TypeId} {x i : IX} (hc : chkOp P op ty (.sindex x i) = true) {av : AV} (hv : POK (pv (.sindex x i) (xg true σ) σ) av) :
    ∃ v, runs P a op ty w v ∧ NR G w σ a av v := by
  cases op <;> first | (simp [chkOp] at hc; done) | skip
  rename_i t y j
  simp only [chkOp, Bool.and_eq_true] at hc
  obtain ⟨⟨hy, hj⟩, ht⟩ := hc
  have ht := strT_eq ht
  have hb := BR.of_inv h hy
  have hbi := BR.of_inv h hj
  have hv' : POK (sindexV (xg true σ x) (xg true σ i)) av := hv
  generalize xg true σ x = xv at hb hv'
  generalize xg true σ i = iv at hbi hv'
  unfold sindexV at hv'
  split at hv'
  · rename_i s k q
    obtain ⟨rfl, h0, hlt⟩ := hv'.prt
    have e1 : a.eval y = .string ⟨s.toArray⟩ := VR.inv_str hb
    have e2 : a.eval j = .int k q := VR.inv_int hbi
    have hq : q.toNat < s.length := by omega
    have hg : (ByteArray.mk s.toArray)[q.toNat]? = some (s.getD q.toNat 0) := by
      have hsz : q.toNat < (ByteArray.mk s.toArray).size := by simpa [ByteArray.size] using hq
      rw [show (ByteArray.mk s.toArray)[q.toNat]? = some ((ByteArray.mk s.toArray)[q.toNat]'hsz) from getElem?_pos (ByteArray.mk s.toArray) q.toNat hsz]
      have : (ByteArray.mk s.toArray)[q.toNat] = s.toArray[q.toNat]'(by simpa using hq) := rfl
      rw [this]
      simp [List.getD_eq_getElem?_getD, List.getElem?_eq_getElem hq]
    refine ⟨.int .u8 (s.getD q.toNat 0).toNat, fun _ _ _ _ => by simp [execOp, e1, e2, Instr.index, underlying, ht, asIntOf, h0, hg], NR.mk rfl (.int _ _) rfl⟩
  · exact hv'.no.elim
theorem elemOfSl_eq {t e : TypeId} (h : elemOfSl P t = some e) : P.underlying t = some (.slice e) := by
  unfold elemOfSl at h
  split at h
  · rename_i ht; injection h with h; subst h; exact ht
  · cases h

theorem pv_fieldAddr (h : Inv G n σ a w) {op : Op} {ty : TypeId} {off : Nat} {x : IX} (hc : chkOp P op ty (.fieldAddr off x) = true) {av : AV} (hv : POK (pv (.fieldAddr off x) (xg true σ) σ) av) :
    ∃ v, runs P a op ty w v ∧ NR G w σ a av v := by
  cases op <;> first | (simp [chkOp] at hc; done) | skip
  rename_i t y i
  simp only [chkOp, Bool.and_eq_true] at hc
  obtain ⟨hy, hc⟩ := hc
  split at hc <;> try (cases hc; done)
  rename_i fs ht
  split at hc <;> try (cases hc; done)
  rename_i f hf
  simp only [Bool.and_eq_true, beq_iff_eq] at hc
  obtain ⟨rfl, hsz⟩ := hc
  split at hsz <;> try (cases hsz; done)
  rename_i ti hti
  have hpos : ti.size ≠ 0 := by have := of_decide_eq_true hsz; omega
  have hb := BR.of_inv h hy
  have hrun : ∀ b o, a.eval y = .pointer (some ⟨b, o, none⟩) → runs P a (.fieldAddr t y i) ty w (.pointer (some ⟨b, o + f.offset, none⟩)) := by
    intro b o e _ _ _ _
    simp [execOp, e, Instr.fieldAt, underlying, ht, hf, Instr.sureAddr, fieldPlace, sizeOf, typeInfo, hti, hpos, add_eq]
  have hv' : POK (fieldAddrV f.offset x (xg true σ x)) av := hv
  generalize hxv : xg true σ x = xv at hb hv'
  unfold fieldAddrV at hv'
  split at hv'
  · rename_i d o
    rw [hv'.tot]
    obtain ⟨b, h1, h2⟩ := hb
    exact ⟨_, hrun b o h1, b, rfl, h2⟩
  · rename_i cs
    by_cases hfit : f.offset ≤ cs.length
    · rw [decide_eq_true hfit] at hv'
      rw [hv'.tot]
      obtain ⟨b, o, e, hR, u, h1, h2, hfl⟩ := VR.inv_sp hb
      refine ⟨_, hrun b o e, NR.mk rfl (.sp _ b (o + f.offset) (fun j => u (f.offset + j)) (hfl.drop _) (by simp; omega) (fun j c hj => ?_) (fun j c hj => ?_)) rfl⟩
      · rw [List.getElem?_drop] at hj
        rw [Nat.add_assoc]; exact h1 _ c hj
      · rw [List.getElem?_drop] at hj
        exact h2 _ c hj
    · rw [decide_eq_false hfit] at hv'; exact hv'.no.elim
  · rename_i b o
    rw [hv'.tot]
    exact ⟨_, hrun b o (VR.inv_ref hb), NR.mk rfl (.ref _ _) rfl⟩
  · rename_i cs
    unfold locA at hv'
    split at hv'
    · rename_i j
      obtain ⟨rfl, _⟩ := hv'.prt
      obtain ⟨i', b, c, t', e1, hl, htm, hvv, _⟩ := hb
      injection e1 with e1
      subst e1
      exact ⟨_, hrun b 0 hvv, b, by rw [Nat.zero_add], fun _ _ => by rw [htm, hvv]⟩
    · exact hv'.no.elim
  · exact hv'.no.elim
end
end Go.AB
