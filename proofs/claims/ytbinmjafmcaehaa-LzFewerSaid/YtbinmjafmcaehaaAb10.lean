/- The abstract layer, part 10: structs that are built, function values, and all operations that only compute together. -/
import Derived.Test.YtbinmjafmcaehaaAb9
import Derived.Laws.BytesArg
namespace Go.AB
open Go

theorem byteOf_some {a : AV} {c : UInt8} (h : byteOf a = some c) : a = .int .u8 c.toNat := by
  unfold byteOf at h
  split at h
  · rename_i n
    split at h
    · rename_i hn
      injection h with h
      subst h
      rw [UInt8.toNat_ofNat']
      congr 1
      omega
    · cases h
  · cases h
theorem bytesOf_some : ∀ {cs : List AV} {l : List UInt8}, bytesOf cs = some l → cs = l.map fun c => .int .u8 c.toNat
  | [], l, h => by
    unfold bytesOf at h
    injection h with h
    subst h; rfl
  | a :: r, l, h => by
    unfold bytesOf at h
    cases ha : byteOf a with
    | none => rw [ha] at h; cases h
    | some c =>
      cases hr : bytesOf r with
      | none => rw [ha, hr] at h; cases h
      | some m =>
        rw [ha, hr] at h
        injection h with h
        subst h
        rw [byteOf_some ha, bytesOf_some hr]; rfl

section
variable {P : Program} {G : Gh} {n : Nat} {σ : St} {a : Act} {w : World}
theorem pv_loadR (h : Inv G n σ a w) {op : Op} {ty : TypeId} {z : List AV} {m : Bool} {x : IX} (hc : chkOp P op ty (.loadR z m x) = true) {av : AV} (hv : POK (pv (.loadR z m x) (xg true σ) σ) av) :
    ∃ v, runs P a op ty w v ∧ NR G w σ a av v := by
  have hc' : chkOp P op ty (.load z.length m x) = true := by
    cases op <;> first | exact hc | (simp [chkOp] at hc; done)
  refine pv_load h hc' ?_
  have hv' : POK (loadP z m σ.s (xg true σ x)) av := hv
  show POK (loadV m (rd σ (xg true σ x) z.length)) av
  generalize xg true σ x = xv at hv'
  cases xv <;> first | exact hv'.no.elim | skip
  rename_i b off
  have hv2 : POK (loadS z m off (σ.s b)) av := hv'
  show POK (loadV m (rdSO z.length off (σ.s b))) av
  cases hs : σ.s b with
  | none => rw [hs] at hv2; exact hv2.no.elim
  | some so =>
    cases so with
    | map es => rw [hs] at hv2; exact hv2.no.elim
    | cells cs =>
      rw [hs] at hv2
      have hv3 : POK (ckP (off + z.length ≤ cs.length) (aggOf m (pad z (views (sub cs off z.length))))) av := hv2
      unfold ckP at hv3
      cases hi : isV (aggOf m (pad z (views (sub cs off z.length)))) with
      | false => rw [hi] at hv3; exact hv3.no.elim
      | true =>
        rw [hi] at hv3
        obtain ⟨rfl, hle⟩ := hv3.prt
        have hlen : (views (AB.sub cs off z.length)).length = z.length := by
          simp only [AB.views, List.length_map, AB.sub, List.length_take, List.length_drop]; omega
        have hpad : pad z (views (AB.sub cs off z.length)) = views (AB.sub cs off z.length) := by
          unfold pad; rw [hlen, beq_self_eq_true]; rfl
        rw [hpad] at hi ⊢
        show POK (loadV m (rdCells z.length off cs)) _
        unfold rdCells
        rw [decide_eq_true hle]
        show POK (ckV (aggOf m (views (AB.sub cs off z.length)))) _
        unfold ckV
        rw [hi]
        exact .inl rfl
theorem pv_cvtStr (h : Inv G n σ a w) {op : Op} {ty : TypeId} {x : IX} (hc : chkOp P op ty (.cvtStr x) = true) {av : AV} (hv : POK (pv (.cvtStr x) (xg true σ) σ) av) :
    ∃ v, runs P a op ty w v ∧ NR G w σ a av v := by
  cases op <;> first | (simp [chkOp] at hc; done) | skip
  rename_i s t y
  simp only [chkOp, Bool.and_eq_true] at hc
  obtain ⟨hy, hc⟩ := hc
  split at hc <;> try (cases hc; done)
  rename_i e hs ht
  split at hc <;> try (cases hc; done)
  rename_i he
  have hb := BR.of_inv h hy
  have hv' : POK (cvtStrV (xg true σ x)) av := hv
  generalize xg true σ x = xv at hb hv'
  unfold cvtStrV at hv'
  split at hv' <;> try (exact hv'.no.elim)
  rename_i ow sz m cs
  cases hsz : sz == 1 with
  | false => rw [hsz] at hv'; exact hv'.no.elim
  | true =>
  rw [hsz] at hv'
  obtain rfl := beq_iff_eq.1 hsz
  have hv2 : POK (strPR (bytesOf cs)) av := hv'
  cases hbs : bytesOf cs with
  | none => rw [hbs] at hv2; exact hv2.no.elim
  | some l =>
  rw [hbs] at hv2
  obtain rfl := hv2.tot
  obtain rfl := bytesOf_some hbs
  refine ⟨.string ⟨l.toArray⟩, fun _ _ _ _ => ?_, NR.mk rfl (.str l) rfl⟩
  rcases VR.inv_sl hb with ⟨e1, _, hl0⟩ | ⟨b, off, cap, e1, hlen, _, _, u, u1, u2, _⟩
  · have : l = [] := by simpa using hl0
    subst this
    have := run_convert_bytes_nil (P := P) w s e hs he 0 0 t ht
    simp [execOp, e1, this]
    rfl
  · have hm : l.length = m := by simpa using hlen
    have := run_convert_bytes_arg (P := P) w s e hs he b off m cap (l.map fun c => (c.toNat : Int)) (by simpa using hm) (fun i hi => by
      have hil : i < l.length := by omega
      have hc0 : (l.map fun c => AV.int .u8 c.toNat)[i]? = some (.int .u8 l[i].toNat) := by simp [hil]
      rw [u1 i _ hc0, VR.inv_int (u2 i _ hc0)]
      simp [List.getD_eq_getElem?_getD, hil]) t ht
    have hs2 : strOfNums (l.map fun c => (c.toNat : Int)) = ⟨l.toArray⟩ := by
      unfold strOfNums
      congr 2
      simp [Function.comp_def]
    rw [hs2] at this
    simp [execOp, e1, this]
end

theorem zipFold (off : Nat) : ∀ (l : List Value) (s : Nat) (cells : Array Value),
    ((l.zipIdx s).foldl (fun cs (x : Value × Nat) => cs.setIfInBounds (off + x.2) x.1) cells).size = cells.size ∧
    ∀ k, ((l.zipIdx s).foldl (fun cs (x : Value × Nat) => cs.setIfInBounds (off + x.2) x.1) cells)[k]? =
      if off + s ≤ k ∧ k < off + s + l.length ∧ k < cells.size then l[k - (off + s)]? else cells[k]? := by
  intro l
  induction l with
  | nil =>
    intro s cells
    refine ⟨rfl, fun k => ?_⟩
    rw [if_neg (by simp; omega)]; rfl
  | cons v l ih =>
    intro s cells
    rw [List.zipIdx_cons, List.foldl_cons]
    obtain ⟨h1, h2⟩ := ih (s + 1) (cells.setIfInBounds (off + s) v)
    refine ⟨by rw [h1]; simp, fun k => ?_⟩
    rw [h2 k]
    simp only [Array.size_setIfInBounds, List.length_cons]
    by_cases hk : k = off + s
    · subst hk
      rw [if_neg (by omega)]
      by_cases hs : off + s < cells.size
      · rw [if_pos ⟨by omega, by omega, hs⟩]
        simp [hs]
      · rw [if_neg (by omega), Array.getElem?_eq_none (by simp; omega), Array.getElem?_eq_none (by omega)]
    · by_cases hc : off + (s + 1) ≤ k ∧ k < off + (s + 1) + l.length ∧ k < cells.size
      · rw [if_pos hc, if_pos (by omega)]
        have : k - (off + s) = (k - (off + (s + 1))) + 1 := by omega
        rw [this, List.getElem?_cons_succ]
      · rw [if_neg hc, if_neg (by omega), Array.getElem?_setIfInBounds_ne (by omega)]

section
variable {P : Program} {G : Gh} {n : Nat} {σ : St} {a : Act} {w : World}

/-- Rows of cells that are alike. -/
def Row (w : World) (R : Nat → Nat) (cs : List AV) (vs : Array Value) : Prop := vs.size = cs.length ∧ (∀ (j : Nat) (c : AV) (u : Value), cs[j]? = some c → vs[j]? = some u → VR w R c u) ∧ Fl cs

theorem cellsOf_row {R : Nat → Nat} {av : AV} {v : Value} (hi : isV av = true) (h : VR w R av v) : Row w R (cellsOf av) v.cells := by
  have key : (∃ cs, av = .agg cs) ∨ (cellsOf av = [av] ∧ v.cells = #[v] ∧ flatV av = true) := by
    cases h <;> first | exact .inl ⟨_, rfl⟩ | exact .inr ⟨rfl, rfl, rfl⟩ | (simp [isV] at hi)
  rcases key with ⟨cs, rfl⟩ | ⟨h1, h2, h3⟩
  · obtain ⟨vs, rfl, hl, hr, hf⟩ := VR.inv_agg h
    exact ⟨hl, hr, hf⟩
  · rw [h1, h2]
    refine ⟨rfl, fun j c u hc hu => ?_, fun c hc => ?_⟩
    rotate_left
    · rw [List.mem_singleton] at hc; subst hc; exact h3
    cases j with
    | succ j => simp at hc
    | zero => simp at hc hu; subst hc; subst hu; exact h

theorem Row.views {R : Nat → Nat} {cs : List AV} {vs : Array Value} (h : Row w R cs vs) : Row w R (views cs) vs := by
  refine ⟨by simp [AB.views, h.1], fun j c u hc hu => ?_, h.2.2.views⟩
  rw [views_get] at hc
  cases hj : cs[j]? with
  | none => rw [hj] at hc; cases hc
  | some c' =>
    rw [hj] at hc; simp at hc
    rw [← hc]; exact (h.2.1 j c' u hj hu).view

theorem setAt_get (cs news : List AV) (off k : Nat) (h : off + news.length ≤ cs.length) : (setAt cs off news)[k]? = if off ≤ k ∧ k < off + news.length then news[k - off]? else cs[k]? := by
  unfold setAt
  rw [List.append_assoc]
  by_cases h1 : k < off
  · rw [if_neg (by omega), List.getElem?_append_left (by simp; omega), List.getElem?_take, if_pos h1]
  · rw [List.getElem?_append_right (by simp; omega)]
    have hl : (cs.take off).length = off := by simp; omega
    rw [hl]
    by_cases h2 : k < off + news.length
    · rw [if_pos ⟨by omega, h2⟩, List.getElem?_append_left (by omega)]
    · rw [if_neg (by omega), List.getElem?_append_right (by omega), List.getElem?_drop]
      congr 1
      omega

theorem setAt_len (cs news : List AV) (off : Nat) (h : off + news.length ≤ cs.length) : (setAt cs off news).length = cs.length := by
  unfold setAt; simp; omega

theorem Fl.setAt {cs news : List AV} (h : Fl cs) (k : Fl news) (off : Nat) : Fl (setAt cs off news) := by
  intro c hc
  unfold AB.setAt at hc
  rcases List.mem_append.1 hc with hc | hc
  · rcases List.mem_append.1 hc with hc | hc
    · exact h c (List.mem_of_mem_take hc)
    · exact k c hc
  · exact h c (List.mem_of_mem_drop hc)

theorem Row.setAt {R : Nat → Nat} {cs news : List AV} {vs us : Array Value} {off : Nat} (h : Row w R cs vs) (k : Row w R news us) (hfit : off + news.length ≤ cs.length) :
    Row w R (setAt cs off news) (us.zipIdx.foldl (fun cs (x : Value × Nat) => cs.setIfInBounds (off + x.2) x.1) vs) := by
  have e : us.zipIdx.foldl (fun cs (x : Value × Nat) => cs.setIfInBounds (off + x.2) x.1) vs = (us.toList.zipIdx 0).foldl (fun cs (x : Value × Nat) => cs.setIfInBounds (off + x.2) x.1) vs := by
    rw [← Array.foldl_toList, Array.toList_zipIdx]
  rw [e]
  obtain ⟨h1, h2⟩ := zipFold off us.toList 0 vs
  refine ⟨by rw [h1, setAt_len _ _ _ hfit, h.1], fun j c u hc hu => ?_, Fl.setAt h.2.2 k.2.2 off⟩
  rw [h2 j] at hu
  rw [setAt_get _ _ _ _ hfit] at hc
  have hus := k.1
  have hvs := h.1
  by_cases hj : off ≤ j ∧ j < off + news.length
  · rw [if_pos hj] at hc
    rw [if_pos (by simp; omega)] at hu
    exact k.2.1 (j - off) c u hc (by simpa using hu)
  · rw [if_neg hj] at hc
    rw [if_neg (by simp; omega)] at hu
    exact h.2.1 j c u hc hu

/-- How the model fills a row, as this layer does. -/
theorem fill_sound (h : Inv G n σ a w) {f : IX → AV} (hf : ∀ (o : Operand) (x : IX), chkX o x = true → isV (f x) = true → VR w G.R (f x) (a.eval o)) (place : Nat → Option (Nat × Nat)) :
    ∀ (qs : List (Nat × Operand)) (ps : List (Nat × Nat × IX)) (cs ds : List AV) (vs : Array Value),
      (qs.length = ps.length ∧ ∀ (j : Nat) (q : Nat × Operand) (p : Nat × Nat × IX), qs[j]? = some q → ps[j]? = some p → place q.1 = some (p.1, p.2.1) ∧ chkX q.2 p.2.2 = true) →
      Row w G.R cs vs → fill f cs ps = some ds → ∃ us, Instr.fill place vs (qs.map fun q => (q.1, a.eval q.2)) = some us ∧ Row w G.R ds us := by
  intro qs
  induction qs with
  | nil =>
    intro ps cs ds vs hc hr hfl
    cases ps with
    | nil => injection hfl with hfl; subst hfl; exact ⟨vs, rfl, hr⟩
    | cons _ _ => simp at hc
  | cons q qs ih =>
    intro ps cs ds vs hc hr hfl
    cases ps with
    | nil => simp at hc
    | cons p ps =>
      obtain ⟨off, m, x⟩ := p
      obtain ⟨hlen, hall⟩ := hc
      obtain ⟨hp, hx⟩ := hall 0 q (off, m, x) rfl rfl
      simp only [fill] at hfl
      cases hcond : (isV (f x) && ((views (cellsOf (f x))).length == m && decide (off + m ≤ cs.length))) with
      | false => rw [hcond] at hfl; cases hfl
      | true =>
        rw [hcond] at hfl
        simp only [Bool.and_eq_true, beq_iff_eq, decide_eq_true_eq] at hcond
        obtain ⟨hi, hm, hfit⟩ := hcond
        have hrow := (cellsOf_row hi (hf q.2 x hx hi)).views
        have hsz : (a.eval q.2).cells.size = m := by rw [hrow.1, hm]
        have hcs : off + (a.eval q.2).cells.size ≤ vs.size := by rw [hsz, hr.1]; exact hfit
        have hr' := hr.setAt hrow (off := off) (by rw [hm]; exact hfit)
        obtain ⟨us, h1, h2⟩ := ih ps _ ds _ ⟨by simpa using hlen, fun j q' p' hq hp' => hall (j + 1) q' p' (by simpa using hq) (by simpa using hp')⟩ hr' hfl
        refine ⟨us, ?_, h2⟩
        simp only [List.map_cons, Instr.fill, hp]
        rw [if_neg (by simp [hsz]; omega)]
        exact h1

theorem partsS_all {fs : Array Field} : ∀ (qs : List (Nat × Operand)) (ps : List (Nat × Nat × IX)), partsS P fs qs ps = true →
    qs.length = ps.length ∧ ∀ (j : Nat) (q : Nat × Operand) (p : Nat × Nat × IX), qs[j]? = some q → ps[j]? = some p → (∃ f, fs[q.1]? = some f ∧ f.offset = p.1 ∧ sizeIs P f.type p.2.1 = true) ∧ chkX q.2 p.2.2 = true := by
  intro qs
  induction qs with
  | nil => intro ps hp; cases ps with
    | nil => exact ⟨rfl, fun j q p hq => by simp at hq⟩
    | cons _ _ => simp [partsS] at hp
  | cons q qs ih => intro ps hp; cases ps with
    | nil => simp [partsS] at hp
    | cons p ps =>
      obtain ⟨off, m, x⟩ := p
      obtain ⟨i, o⟩ := q
      simp only [partsS, Bool.and_eq_true] at hp
      obtain ⟨⟨h1, h2⟩, h3⟩ := hp
      obtain ⟨h4, h5⟩ := ih ps h3
      refine ⟨by simp [h4], fun j q' p' hq hp' => ?_⟩
      cases j with
      | zero =>
        simp at hq hp'
        subst hq; subst hp'
        split at h1
        · rename_i f hf
          simp only [Bool.and_eq_true, beq_iff_eq] at h1
          exact ⟨⟨f, hf, h1.1, h1.2⟩, h2⟩
        · cases h1
      | succ j => exact h5 j q' p' (by simpa using hq) (by simpa using hp')

theorem partsA_all {sz : Nat} : ∀ (qs : List (Nat × Operand)) (ps : List (Nat × Nat × IX)), partsA sz qs ps = true →
    qs.length = ps.length ∧ ∀ (j : Nat) (q : Nat × Operand) (p : Nat × Nat × IX), qs[j]? = some q → ps[j]? = some p → (q.1 * sz = p.1 ∧ p.2.1 = sz) ∧ chkX q.2 p.2.2 = true := by
  intro qs
  induction qs with
  | nil => intro ps hp; cases ps with
    | nil => exact ⟨rfl, fun j q p hq => by simp at hq⟩
    | cons _ _ => simp [partsA] at hp
  | cons q qs ih => intro ps hp; cases ps with
    | nil => simp [partsA] at hp
    | cons p ps =>
      obtain ⟨off, m, x⟩ := p
      obtain ⟨i, o⟩ := q
      simp only [partsA, Bool.and_eq_true, beq_iff_eq] at hp
      obtain ⟨⟨⟨h0, h1⟩, h2⟩, h3⟩ := hp
      obtain ⟨h4, h5⟩ := ih ps h3
      refine ⟨by simp [h4], fun j q' p' hq hp' => ?_⟩
      cases j with
      | zero => simp at hq hp'; subst hq; subst hp'; exact ⟨⟨h0, h1⟩, h2⟩
      | succ j => exact h5 j q' p' (by simpa using hq) (by simpa using hp')

theorem zeroIs_eq {t : TypeId} {z : List AV} (h : zeroIs P t z = true) : ∃ i v, P.info? t = some i ∧ i.zero = some v ∧ i.size = z.length ∧ (∀ (w : World) (R : Nat → Nat), Row w R z v.cells) ∧ (∀ (j : Nat) (c : AV) (u : Value), z[j]? = some c → v.cells[j]? = some u → cR u c = true) := by
  unfold zeroIs at h
  split at h
  · rename_i i hi
    split at h
    · rename_i v hv
      simp only [Bool.and_eq_true, beq_iff_eq] at h
      obtain ⟨h1, h2⟩ := cRs_get h.1
      exact ⟨i, v, hi, hv, h.2, fun w R => ⟨by simpa using h1, fun j c u hc hu => cR_vr (h2 j c u hc (by simpa using hu)) w R, cRs_fl h.1⟩, fun j c u hc hu => h2 j c u hc (by simpa using hu)⟩
    · cases h
  · cases h

theorem mapM_places (w : World) : ∀ (fs : List Field), (∀ f ∈ fs, (P.info? f.type).isSome = true) →
    (fs.mapM (m := Sem) fun f => Prod.mk f.offset <$> sizeOf f.type).run P w = .ok (fs.map fun f => (f.offset, P.cellsOf f.type)) w := by
  intro fs
  induction fs with
  | nil => intro _; rfl
  | cons f fs ih =>
    intro h
    have hf := h f (by simp)
    cases hi : P.info? f.type with
    | none => rw [hi] at hf; cases hf
    | some i =>
      simp [List.mapM_cons, sizeOf, typeInfo, hi, Program.cellsOf] at ih ⊢
      rw [ih fun f hf => h f (by simp [hf])]
      simp

theorem pv_build (h : Inv G n σ a w) {op : Op} {ty : TypeId} {z : List AV} {ps : List (Nat × Nat × IX)} (hc : chkOp P op ty (.build z ps) = true) {av : AV} (hv : POK (pv (.build z ps) (xg true σ) σ) av) :
    ∃ v, runs P a op ty w v ∧ NR G w σ a av v := by
  cases op <;> first | (simp [chkOp] at hc; done) | skip
  rename_i t qs
  simp only [chkOp, Bool.and_eq_true] at hc
  obtain ⟨hz, hc⟩ := hc
  obtain ⟨ti, zv, hti, hzv, hsz, hrow, _⟩ := zeroIs_eq hz
  have hv' : POK (buildV (fill (xg true σ) z ps)) av := hv
  cases hfl : fill (xg true σ) z ps with
  | none => rw [hfl] at hv'; exact hv'.no.elim
  | some ds =>
    rw [hfl] at hv'
    have hav : av = .agg ds := hv'.tot
    subst hav
    have hzr : (zeroValue t).run P w = .ok zv w := by simp [zeroValue, typeInfo, hti, hzv]
    have hf : ∀ (o : Operand) (x : IX), chkX o x = true → isV (xg true σ x) = true → VR w G.R (xg true σ x) (a.eval o) := fun o x hx hi => (BR.of_inv h hx).vr hi
    split at hc <;> try (cases hc; done)
    · rename_i fs ht
      rw [Bool.and_eq_true] at hc
      obtain ⟨hp, hall⟩ := hc
      obtain ⟨hl, hp⟩ := partsS_all _ _ hp
      have hplaces : (fs.mapM (m := Sem) fun f => Prod.mk f.offset <$> sizeOf f.type).run P w = .ok (fs.map fun f => (f.offset, P.cellsOf f.type)) w := by
        have := mapM_places (P := P) w fs.toList (fun f hf => by
          have := Array.all_eq_true'.1 hall f (by simpa using hf)
          exact this)
        rw [Array.mapM_eq_mapM_toList]
        simp only [Sem.run_map, this, Result.andThen_ok]
        congr 1
        apply Array.ext'
        simp
      obtain ⟨us, h1, h2⟩ := fill_sound h hf ((fs.map fun f => (f.offset, P.cellsOf f.type))[·]?) qs.toList ps z ds zv.cells
        ⟨hl, fun j q p hq hp' => by
          obtain ⟨⟨f, hf1, hf2, hf3⟩, hx⟩ := hp j q p hq hp'
          obtain ⟨i, hi1, hi2⟩ := sizeIs_eq hf3
          refine ⟨?_, hx⟩
          simp [hf1, hf2, Program.cellsOf, hi1, hi2]⟩ (hrow w G.R) hfl
      refine ⟨.agg us, fun _ _ _ _ => ?_, NR.mk rfl (.agg _ _ h2.2.2 h2.1 h2.2.1) rfl⟩
      simp only [Array.getElem?_map] at h1
      simp [execOp, Instr.build, hzr, run_underlying ht, hplaces, h1]
    · rename_i m e ht
      split at hc <;> try (cases hc; done)
      rename_i ei hei
      obtain ⟨hl, hp⟩ := partsA_all _ _ hc
      obtain ⟨us, h1, h2⟩ := fill_sound h hf (fun i => some (i * ei.size, ei.size)) qs.toList ps z ds zv.cells
        ⟨hl, fun j q p hq hp' => by
          obtain ⟨⟨e1, e2⟩, hx⟩ := hp j q p hq hp'
          exact ⟨by rw [e1, e2], hx⟩⟩ (hrow w G.R) hfl
      refine ⟨.agg us, fun _ _ _ _ => ?_, NR.mk rfl (.agg _ _ h2.2.2 h2.1 h2.2.1) rfl⟩
      simp [execOp, Instr.build, hzr, run_underlying ht, sizeOf, typeInfo, hei, h1]
theorem chkXs_len : ∀ (os : List Operand) (xs : List IX), chkXs os xs = true → os.length = xs.length := by
  intro os
  induction os with
  | nil => intro xs h; cases xs with
    | nil => rfl
    | cons _ _ => simp [chkXs] at h
  | cons o os ih => intro xs h; cases xs with
    | nil => simp [chkXs] at h
    | cons x xs => simp only [chkXs, Bool.and_eq_true] at h; simp [ih xs h.2]

/-- Arguments that are handed over. -/
theorem argsV_sound (h : Inv G n σ a w) {f : IX → AV} (hf : ∀ (o : Operand) (x : IX), chkX o x = true → isV (f x) = true → VR w G.R (f x) (a.eval o)) :
    ∀ (os : List Operand) (xs : List IX) (as : List AV), chkXs os xs = true → argsV f xs = some as → as.length = os.length ∧ (∀ c ∈ as, isV c = true ∧ view c = c) ∧
      ∀ (j : Nat) (c : AV) (u : Value), as[j]? = some c → (os.map a.eval)[j]? = some u → VR w G.R c u := by
  intro os
  induction os with
  | nil =>
    intro xs as hc hv
    cases xs with
    | nil => injection hv with hv; subst hv; exact ⟨rfl, by simp, fun j c u hc => by simp at hc⟩
    | cons _ _ => simp [chkXs] at hc
  | cons o os ih =>
    intro xs as hc hv
    cases xs with
    | nil => simp [chkXs] at hc
    | cons x xs =>
      simp only [chkXs, Bool.and_eq_true] at hc
      simp only [argsV] at hv
      cases hr : argsV f xs with
      | none => rw [hr] at hv; simp [argC] at hv
      | some as' =>
        rw [hr] at hv
        simp only [argC] at hv
        cases hi : isV (f x) with
        | false => rw [hi] at hv; cases hv
        | true =>
          rw [hi] at hv
          injection hv with hv; subst hv
          obtain ⟨h1, h2, h3⟩ := ih xs as' hc.2 hr
          refine ⟨by simp [h1], ?_, fun j c u hcj hu => ?_⟩
          · intro c hcm
            rcases List.mem_cons.1 hcm with rfl | hcm
            · exact ⟨isV_view hi, view_view _⟩
            · exact h2 c hcm
          · cases j with
            | zero => simp at hcj hu; subst hcj; subst hu; exact (hf o x hc.1 hi).view
            | succ j => exact h3 j c u (by simpa using hcj) (by simpa using hu)

theorem pv_makeFn (h : Inv G n σ a w) {op : Op} {ty : TypeId} {fi : Nat} {fs cs : List IX} (hc : chkOp P op ty (.makeFn fi fs cs) = true) {av : AV} (hv : POK (pv (.makeFn fi fs cs) (xg true σ) σ) av) :
    ∃ v, runs P a op ty w v ∧ NR G w σ a av v := by
  cases op <;> first | (simp [chkOp] at hc; done) | skip
  rename_i g c d
  cases g <;> first | (simp [chkOp] at hc; done) | skip
  rename_i g
  simp only [chkOp, Bool.and_eq_true, beq_iff_eq] at hc
  obtain ⟨⟨rfl, h1⟩, h2⟩ := hc
  have hf : ∀ (o : Operand) (x : IX), chkX o x = true → isV (xg true σ x) = true → VR w G.R (xg true σ x) (a.eval o) := fun o x hx hi => (BR.of_inv h hx).vr hi
  have hv' : POK (makeFnV fi (argsV (xg true σ) fs) (argsV (xg true σ) cs)) av := hv
  unfold makeFnV at hv'
  split at hv'
  · rename_i x y hx hy
    have hav := hv'.tot
    subst hav
    obtain ⟨a1, _, a3⟩ := argsV_sound h hf _ _ _ h1 hx
    obtain ⟨b1, _, b3⟩ := argsV_sound h hf _ _ _ h2 hy
    refine ⟨.func (.func fi) (c.map a.eval) (d.map a.eval), fun _ _ _ _ => by simp [execOp, Instr.makeFunc], NR.mk rfl (.fn fi x y _ _ ?_ (fun j c' u hc' hu => a3 j c' u hc' ?_) ?_ (fun j c' u hc' hu => b3 j c' u hc' ?_)) rfl⟩
    · simpa using a1.symm
    · simpa using hu
    · simpa using b1.symm
    · simpa using hu
  · exact hv'.no.elim

theorem pv_minmax (h : Inv G n σ a w) {op : Op} {ty : TypeId} {mx : Bool} {xs : List IX} (hc : chkOp P op ty (.minmax mx xs) = true) {av : AV} (hv : POK (pv (.minmax mx xs) (xg true σ) σ) av) :
    ∃ v, runs P a op ty w v ∧ NR G w σ a av v := by
  have key : ∀ (ys : List Operand), chkXs ys xs = true → ∃ (k : IntKind) (m : Int) (y : Operand) (ys' : List Operand), ys = y :: ys' ∧ av = .int k m ∧ ∃ m0, a.eval y = .int k m0 ∧
      ((ys'.map a.eval).foldlM (if mx then Builtin.max2 else Builtin.min2) (.int k m0)).run P w = .ok (.int k m) w := by
    intro ys hx
    have hv' : POK (minmaxV mx (xs.map (xg true σ))) av := hv
    cases xs with
    | nil => exact hv'.no.elim
    | cons x xs =>
      cases ys with
      | nil => simp [chkXs] at hx
      | cons y ys =>
        simp only [chkXs, Bool.and_eq_true] at hx
        have hb := BR.of_inv h hx.1
        simp only [List.map_cons] at hv'
        generalize xg true σ x = xv at hb hv'
        cases xv <;> simp only [minmaxV] at hv' <;> try (exact hv'.no.elim)
        rename_i k m0
        cases hr : minL mx m0 (xs.map (xg true σ)) with
        | none => rw [hr] at hv'; exact hv'.no.elim
        | some r =>
          rw [hr] at hv'
          have hav : av = .int k r := hv'.tot
          exact ⟨k, r, y, ys, rfl, hav, m0, VR.inv_int hb, minL_eq mx k h xs ys hx.2 m0 r hr⟩
  cases op <;> first | (cases mx <;> simp [chkOp] at hc; done) | skip
  rename_i c
  cases mx with
  | true =>
    simp only [chkOp] at hc
    split at hc <;> try (cases hc; done)
    rename_i ys ts hb
    have hce := asB_eq hb
    subst hce
    obtain ⟨k, m, y, ys', rfl, rfl, m0, e0, hr⟩ := key ys hc
    refine ⟨.int k m, fun _ _ _ _ => ?_, NR.mk rfl (.int _ _) rfl⟩
    simp only [if_true] at hr
    simp [execOp, resolve, invoke, builtin, Builtin.max_, e0, hr]
  | false =>
    simp only [chkOp] at hc
    split at hc <;> try (cases hc; done)
    rename_i ys ts hb
    have hce := asB_eq hb
    subst hce
    obtain ⟨k, m, y, ys', rfl, rfl, m0, e0, hr⟩ := key ys hc
    refine ⟨.int k m, fun _ _ _ _ => ?_, NR.mk rfl (.int _ _) rfl⟩
    simp only [Bool.false_eq_true, if_false] at hr
    simp [execOp, resolve, invoke, builtin, Builtin.min_, e0, hr]

/-- ALL OPERATIONS THAT ONLY COMPUTE. -/
theorem pv_sound (h : Inv G n σ a w) {op : Op} {ty : TypeId} {o : IOp} (hc : chkOp P op ty o = true) {av : AV} (hv : POK (pv o (xg true σ) σ) av) :
    ∃ v, runs P a op ty w v ∧ NR G w σ a av v := by
  cases o with
  | mov tr x => cases tr with
    | false => exact pv_mov h hc hv
    | true => exact (POK.no hv).elim
  | pick c x y => exact pv_pick h hc hv
  | bin b x y => exact pv_bin h hc hv
  | eqB ne x y => exact pv_eqB h hc hv
  | eqP ne x y => exact pv_eqP h hc hv
  | eqS ne x y => exact pv_eqS h hc hv
  | un u x => exact pv_un h hc hv
  | cvtInt k x => exact pv_cvtInt h hc hv
  | cvtId x => exact pv_cvtId h hc hv
  | load m mu x => exact pv_load h hc hv
  | field m mu off x => exact pv_field h hc hv
  | index m mu len x i => exact pv_index h hc hv
  | sindex x i => exact pv_sindex h hc hv
  | nilCheck x => exact pv_nilCheck h hc hv
  | fieldAddr off x => exact pv_fieldAddr h hc hv
  | indexAddr sz x i => exact pv_indexAddr h hc hv
  | aindexAddr sz len x i => exact pv_aindexAddr h hc hv
  | slice sz x lo hi mx => exact pv_slice h hc hv
  | sslice x lo hi => exact pv_sslice h hc hv
  | len cls x => exact pv_len h hc hv
  | alen m => exact pv_alen hc hv
  | minmax mx xs => exact pv_minmax h hc hv
  | extract x k => exact pv_extract h hc hv
  | build z ps => exact pv_build h hc hv
  | makeFn f a b => exact pv_makeFn h hc hv
  | cvtStr x => exact pv_cvtStr h hc hv
  | loadR z m x => exact pv_loadR h hc hv
  | _ => exact (POK.no hv).elim
end
end Go.AB
