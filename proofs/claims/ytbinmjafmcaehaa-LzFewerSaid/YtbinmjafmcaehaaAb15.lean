/- The abstract layer, part 15: calls. -/
import Derived.Test.YtbinmjafmcaehaaAb14
namespace Go.AB
open Go

section
variable {P : Program} {G G' : Gh} {n : Nat} {σ : St} {a : Act} {w w' : World}

/-- The owners as a callee sees them. -/
def Gh.outer (G : Gh) : Gh := ⟨G.R, fun b => match G.O b with
  | .none => .none
  | .sh => .sh
  | .cell b' j => if G.O b' = .sh then .cell b' j else .frame
  | _ => .frame⟩

theorem outer_none {b : Nat} : G.outer.O b = .none ↔ G.O b = .none := by
  simp only [Gh.outer]
  split <;> simp_all
  split <;> simp

theorem outer_sh {b : Nat} : G.outer.O b = .sh ↔ G.O b = .sh := by
  simp only [Gh.outer]
  split <;> simp_all
  split <;> simp

theorem outer_cell {b b' j : Nat} : G.outer.O b = .cell b' j ↔ (G.O b = .cell b' j ∧ G.O b' = .sh) := by
  simp only [Gh.outer]
  split <;> simp_all
  rename_i b1 j1 _
  by_cases hb : G.O b1 = .sh
  · rw [if_pos hb]
    constructor
    · intro e; injection e with e1 e2; subst e1; subst e2; exact ⟨⟨rfl, rfl⟩, hb⟩
    · rintro ⟨⟨rfl, rfl⟩, _⟩; rfl
  · rw [if_neg hb]
    constructor
    · intro e; cases e
    · rintro ⟨⟨rfl, rfl⟩, h⟩; exact absurd h hb

theorem outer_frame {b : Nat} (h1 : G.O b ≠ .none) (h2 : G.O b ≠ .sh) (h3 : ∀ b' j, G.O b = .cell b' j → G.O b' ≠ .sh) : G.outer.O b = .frame := by
  simp only [Gh.outer]
  split <;> first | (rename_i e; exact absurd e h1) | (rename_i e; exact absurd e h2) | rfl | skip
  rename_i b' j e
  rw [if_neg (h3 b' j e)]

theorem outer_outer (G : Gh) : Outer G.outer := by
  intro b
  by_cases h1 : G.O b = .none
  · exact .inl (outer_none.2 h1)
  · by_cases h2 : G.O b = .sh
    · exact .inr (.inr (.inl (outer_sh.2 h2)))
    · by_cases h3 : ∃ b' j, G.O b = .cell b' j ∧ G.O b' = .sh
      · obtain ⟨b', j, e1, e2⟩ := h3
        exact .inr (.inr (.inr ⟨b', j, outer_cell.2 ⟨e1, e2⟩, outer_sh.2 e2⟩))
      · exact .inr (.inl (outer_frame h1 h2 fun b' j e hb' => h3 ⟨b', j, e, hb'⟩))

def isOne : List AV → Bool
  | [_] => true
  | _ => false
def resT (single : Bool) : Option Nat → Nat → Owner
  | some i, j => .slot i (if single then j else j + 1)
  | none, _ => .none
def resO (single : Bool) (d : Option Nat) : Owner → Owner
  | .none => .none
  | .sh => .sh
  | .cell b' j => .cell b' j
  | .res j => resT single d j
  | _ => .none

theorem Inv.args (h : Inv G n σ a w) {ys : List Operand} {xs : List IX} {as : List AV} (hc : chkXs ys xs = true) (hv : argsV (xg true σ) xs = some as) : ArgsR w G.R as (ys.map a.eval).toArray := by
  have hf : ∀ (o : Operand) (x : IX), chkX o x = true → isV (xg true σ x) = true → VR w G.R (xg true σ x) (a.eval o) := fun o x hx hi => by
    have := BR.of_inv h hx
    generalize xg true σ x = av at hi this
    cases av <;> first | exact this | (simp [isV] at hi)
  obtain ⟨h1, _, h3⟩ := argsV_sound h hf ys xs as hc hv
  exact ⟨by simp [h1], fun j c u hc hu => h3 j c u hc (by simpa using hu)⟩

theorem Inv.outerGood (h : Inv G n σ a w) : GoodW G.outer w ∧ StoreR G.outer w σ.s :=
  ⟨⟨fun b hb => outer_none.2 (h.good.newO b hb), h.good.newR⟩, h.store.mono' (fun _ _ hv => hv) (fun _ hb => ⟨outer_sh.2 hb, rfl, rfl⟩) (fun _ _ _ hb hc => ⟨outer_cell.2 ⟨hc, hb⟩, rfl, rfl⟩)⟩

/-- Behind a call that keeps its contract. -/
theorem Inv.behind (h : Inv G n σ a w) {d : Option Nat} (hd : dstOK n d = true) {rs : List AV} {s' : Store} {v : Value} (hok : rsOK rs = true) (hg : GoodW G' w') (hs : StoreR G' w' s') (hr : ResR G' w' rs v) (hp : Pres G.outer w G' w') :
    ∃ G2, Inv G2 n ({ σ with s := s' }.put d (retV rs)) (a.put d v) w' ∧ Pres G w G2 w' := by
  obtain ⟨O2, hO2⟩ : ∃ O2 : Nat → Owner, ∀ b, O2 b = if G.outer.O b = .frame then G.O b else resO (isOne rs) d (G'.O b) := ⟨_, fun _ => rfl⟩
  let G2 : Gh := ⟨G'.R, O2⟩
  have hfr : ∀ b, G.outer.O b = .frame → b < w.heap.size ∧ w'.heap[b]? = w.heap[b]? ∧ G'.O b = .frame ∧ G'.R b = G.R b ∧ G2.O b = G.O b := by
    intro b hb
    have hlt : b < w.heap.size := h.outerGood.1.lt (by rw [hb]; simp)
    obtain ⟨q1, q2⟩ := hp.frameO b hlt hb
    exact ⟨hlt, hp.frame b hlt (.inl hb), q1, q2, (hO2 b).trans (if_pos hb)⟩
  have hnf : ∀ b, G.outer.O b ≠ .frame → G2.O b = resO (isOne rs) d (G'.O b) := by
    intro b hb
    exact (hO2 b).trans (if_neg hb)
  have hgood : GoodW G2 w' := by
    refine ⟨fun b hb => ?_, fun b hb => hg.newR b hb⟩
    have hbs : w.heap.size ≤ b := Nat.le_trans hp.size hb
    rw [hnf b (by rw [outer_none.2 (h.good.newO b hbs)]; simp), hg.newO b hb]; rfl
  have hpres : Pres G w G2 w' := by
    refine ⟨hp.os, hp.tape, hp.output, hp.size, hp.mono, hp.stable, fun b hb ho => ?_, fun b hb ho => ?_, fun b hb ho => ?_⟩
    · rcases ho with ho | ho
      · exact hp.frame b hb (.inl (outer_frame (by rw [ho]; simp) (by rw [ho]; simp) (by rw [ho]; simp)))
      · exact hp.frame b hb (.inr (outer_none.2 ho))
    · obtain ⟨_, _, _, q4, q5⟩ := hfr b (outer_frame (by rw [ho]; simp) (by rw [ho]; simp) (by rw [ho]; simp))
      exact ⟨q5.trans ho, q4⟩
    · have ho' := outer_none.2 ho
      obtain ⟨q1, q2⟩ := hp.noneO b hb ho'
      exact ⟨by rw [hnf b (by rw [ho']; simp), q1]; rfl, q2⟩
  have hkeep : ∀ b, (G'.O b = .sh ∨ ∃ b' j, G'.O b = .cell b' j) → G2.O b = G'.O b := by
    intro b hb
    by_cases hf : G.outer.O b = .frame
    · have := (hfr b hf).2.2.1
      rcases hb with hb | ⟨_, _, hb⟩ <;> rw [this] at hb <;> cases hb
    · rw [hnf b hf]
      rcases hb with hb | ⟨_, _, hb⟩ <;> rw [hb] <;> rfl
  have hst : StoreR G2 w' s' := hs.mono' (fun _ _ hv => hv) (fun b hb => ⟨(hkeep b (.inl hb)).trans hb, rfl, rfl⟩) (fun b c j _ hc => ⟨(hkeep c (.inr ⟨b, j, hc⟩)).trans hc, rfl, rfl⟩)
  have hres : ∀ (i j : Nat) (x : AV) (y : Value), d = some i → OwnR G' w' (.res j) x y → OwnR G2 w' (.slot i (if isOne rs then j else j + 1)) x y := by
    intro i j x y hdi ho
    unfold OwnR at ho ⊢
    split
    · rename_i sz m cs
      intro base m' cap hv hc
      obtain ⟨b, off, c, e, fz, q1, q2, q3⟩ := ho base m' cap hv hc
      refine ⟨b, off, c, e, fz, q1, ?_, q3⟩
      have hf : G.outer.O b ≠ .frame := fun hf => by have := (hfr b hf).2.2.1; rw [q2] at this; cases this
      rw [hnf b hf, q2, hdi]; rfl
    · trivial
  have hput := h.put (s' := s') (lp' := σ.lp) d (fun i hi => by subst hi; simpa [dstOK] using hd) (retV rs) v hgood hpres hst (fun _ hx => hx)
    (fun i t _ ht => by
      match rs, hok, ht with
      | [r], hok, ht => exact (not_holdsLp hok t ht).elim
      | [], _, ht => exact ht.elim
      | _ :: _ :: _, _, ht => exact ht.elim)
    (fun i t _ ⟨cs, hcs⟩ => by
      match rs, hok, hcs with
      | [r], hok, hcs => exact (not_loc hok cs hcs).elim
      | [], _, hcs => cases hcs
      | _ :: _ :: _, _, hcs => cases hcs)
    (fun i b _ hb => by
      have hf : G.outer.O b = .frame := by
        rcases hb with ⟨j, hb⟩ | hb <;> exact outer_frame (by rw [hb]; simp) (by rw [hb]; simp) (by rw [hb]; simp)
      obtain ⟨_, q2, _, q4, q5⟩ := hfr b hf
      exact ⟨q5, q4, q2⟩)
    (fun i b c j _ hb hc => by
      have hf : G.outer.O c = .frame := outer_frame (by rw [hc]; simp) (by rw [hc]; simp) (fun b' j' e => by rw [hc] at e; injection e with e1 e2; subst e1; rw [hb]; simp)
      obtain ⟨_, q2, _, q4, q5⟩ := hfr c hf
      exact ⟨q5.trans hc, q4, q2⟩)
    (fun i hi => by
      match rs, hok, hr, hres with
      | [r], hok, hr, hres =>
        show ValS G2 w' _ _ i r v
        rw [ValS.of_isV hok]
        exact ⟨hr.1, hres i 0 r v hi hr.2⟩
      | [], _, hr, hres =>
        obtain ⟨ys, q1, q2⟩ := hr
        exact ⟨ys, q1, q2.1, fun j x y hx => by simp at hx⟩
      | r1 :: r2 :: rr, _, hr, hres =>
        obtain ⟨ys, q1, q2⟩ := hr
        exact ⟨ys, q1, q2.1, fun j x y hx hy => ⟨(q2.2 j x y hx hy).1, hres i j x y hi (q2.2 j x y hx hy).2⟩⟩)
  exact ⟨G2, by cases d <;> exact hput, hpres⟩

/-- A call that is entered. -/
theorem eff_enter (h : Inv G n σ a w) {op : Op} {ty : TypeId} {d : Option Nat} {K : St → Prop} (hd : dstOK n d = true) {f : FuncId} {as : List AV} {vs : Array Value}
    (hr : ∀ (pos : String) (after : Array Edge) (g : Option (Nat × Bool)), (execOp a.eval ⟨d, op, ty, pos, after, g⟩).run P w = .ok (.enter f vs) w) (ha : ArgsR w G.R as vs) (hw : FN P f as σ.s (callK σ d K)) : Eff P G n w a op ty d K := by
  intro pos after g next Q hn
  unfold Oper.wp
  rw [hr pos after g]
  obtain ⟨g1, g2⟩ := h.outerGood
  refine (hw G.outer w vs g1 (outer_outer G) g2 ha).mono fun e w' ⟨v, rs, s', G', he, ⟨hok, hk⟩, q1, q2, q3, q4⟩ => ?_
  subst he
  obtain ⟨G2, h1, h2⟩ := h.behind hd hok q1 q2 q3 q4
  exact hn G2 _ _ _ h1 h2 hk

theorem run_callFunc {f : FuncId} {fn : Func} (hf : P.funcs[f]? = some fn) (hname : (fn.name != "runtime.NumGoroutine") = true) (hb : fn.body.isSome = true) (args : Array Value) : (callFunc f args).run P w = .ok (.enter f args) w := by
  have h1 : ¬ (fn.name = "runtime.NumGoroutine") := by simpa using hname
  have h2 : fn.body.isNone = false := by cases hbb : fn.body <;> simp_all
  have h3 : fn.body ≠ none := by intro e; rw [e] at hb; cases hb
  simp [callFunc, hf, h1, h3]

theorem eff_call (h : Inv G n σ a w) {op : Op} {ty : TypeId} {f : Nat} {args : List IX} {d : Option Nat} {K : St → Prop} (hd : dstOK n d = true) (hc : chkOp P op ty (.call f args) = true) (hw : iwp P (.call f args) d σ K) : Eff P G n w a op ty d K := by
  cases op <;> first | (simp [chkOp] at hc; done) | skip
  rename_i c
  obtain ⟨callee, ys, ats⟩ := c
  simp only [chkOp] at hc
  split at hc <;> try (cases hc; done)
  rename_i g
  simp only [Bool.and_eq_true, beq_iff_eq] at hc
  obtain ⟨⟨rfl, hxs⟩, hfn⟩ := hc
  split at hfn <;> try (cases hfn; done)
  rename_i fn hf
  rw [Bool.and_eq_true] at hfn
  have hw' : callW P f σ d K (argsV (xg true σ) args) := hw
  cases has : argsV (xg true σ) args with
  | none => rw [has] at hw'; exact hw'.elim
  | some as =>
    rw [has] at hw'
    refine eff_enter h hd (as := as) (vs := ys.map a.eval) (fun _ _ _ => ?_) ?_ hw'
    · simp [execOp, resolve, Act.eval, Deferred.ofValue, invoke, run_callFunc hf hfn.1 hfn.2]
    · have := h.args hxs has
      rwa [show (ys.toList.map a.eval).toArray = ys.map a.eval from by apply Array.ext'; simp] at this

theorem bytesIs_eq {t : TypeId} {m : Nat} (h : bytesIs P t m = true) : ∃ i, P.info? t = some i ∧ i.bytes = m := by
  unfold bytesIs at h
  split at h
  · exact ⟨_, by assumption, by simpa using h⟩
  · cases h

theorem wrap64_id {c : Int} (h0 : 0 ≤ c) (h1 : c ≤ 9223372036854775807) : IntKind.i64.wrap c = c := by rw [IntKind.wrap_i64]; omega

theorem room_i64 {c : Int} {by' : Nat} (h0 : 0 ≤ c) (hb : 0 < by') (hr : c * by' ≤ room) : c ≤ room ∧ IntKind.i64.wrap c = c ∧ ¬ (281474976710656 < by' * c) := by
  have h1 : c ≤ c * by' := by
    have := Int.mul_le_mul_of_nonneg_left (show (1 : Int) ≤ by' by omega) h0
    omega
  have h2 : c ≤ room := Int.le_trans h1 hr
  refine ⟨h2, ?_, ?_⟩
  · unfold room at h2
    exact wrap64_id (by omega) (by omega)
  · rw [Int.mul_comm] at hr
    unfold room at hr
    omega

theorem flatten_repG {α : Type} (u : α) (l : List α) : ∀ (m : Nat), ((List.replicate m l).flatten) = ((List.range (m * l.length)).map fun i => l.getD (i % l.length) u) := by
  intro m
  apply List.ext_getElem?
  intro j
  rcases Nat.eq_zero_or_pos l.length with h0 | hp
  · have : l = [] := List.eq_nil_of_length_eq_zero h0
    subst this
    simp
  · induction m generalizing j with
    | zero => simp
    | succ m ih =>
      rw [List.replicate_succ, List.flatten_cons]
      by_cases hj : j < l.length
      · rw [List.getElem?_append_left hj, List.getElem?_map, List.getElem?_range (by rw [Nat.add_mul, Nat.one_mul]; omega)]
        simp [Nat.mod_eq_of_lt hj, List.getD_eq_getElem?_getD, List.getElem?_eq_getElem hj]
      · rw [List.getElem?_append_right (by omega), ih, List.getElem?_map, List.getElem?_map]
        by_cases hlt : j < (m + 1) * l.length
        · have h1 : j - l.length < m * l.length := by rw [Nat.add_mul, Nat.one_mul] at hlt; omega
          rw [List.getElem?_range hlt, List.getElem?_range h1]
          simp only [Option.map_some]
          congr 2
          rw [Nat.mod_eq_sub_mod (by omega : l.length ≤ j)]
        · have h1 : ¬ (j - l.length < m * l.length) := by rw [Nat.add_mul, Nat.one_mul] at hlt; omega
          rw [List.getElem?_eq_none (by simp; omega), List.getElem?_eq_none (by simp; omega)]

theorem run_makeSlice {t e : TypeId} {i : TypeInfo} {z : Value} {l c : Int} {k k' : IntKind} (ht : P.underlying t = some (.slice e)) (hi : P.info? e = some i) (hz : i.zero = some z) (hsz : z.cells.size = i.size) (hb : 0 < i.bytes) (h0 : 0 ≤ l) (hlc : l ≤ c) (hr : c * i.bytes ≤ room) (w : World) :
    (Instr.makeSlice t (.int k l) (.int k' c)).run P w = .ok (.slice (some ⟨w.heap.size, 0, none⟩) l.toNat c.toNat) (w.alloc (.cells ((List.replicate c.toNat z.cells.toList).flatten).toArray e)) := by
  obtain ⟨h1, h2, h3⟩ := room_i64 (Int.le_trans h0 hlc) hb hr
  have h4 : IntKind.i64.wrap l = l := wrap64_id (by omega) (by unfold room at h1; omega)
  have h5 : ¬ (c < 0) := by omega
  have h6 : ¬ (l < 0) := by omega
  have h7 : ¬ (c < l) := by omega
  have hrow : (Array.map (fun x => (if c.toNat * i.size = 0 then (#[] : Array Value) else z.cells)[x % (if c.toNat * i.size = 0 then (#[] : Array Value) else z.cells).size]!) (Array.range (c.toNat * i.size))) = ((List.replicate c.toNat z.cells.toList).flatten).toArray := by
    rw [← zero_row, hsz]
    by_cases hn : c.toNat * i.size = 0
    · simp [hn]
    · simp [hn, hsz]
  by_cases hn : c.toNat * i.size = 0
  · simp only [hn, if_true] at hrow
    simp [Instr.makeSlice, asInt, asIntOf, run_underlying ht, typeInfo, sizeOf, hi, h2, h4, h3, h5, h6, h7, newRow, hn, ← hrow]
  · simp only [hn, if_false] at hrow
    simp [Instr.makeSlice, asInt, asIntOf, run_underlying ht, typeInfo, sizeOf, hi, h2, h4, h3, h5, h6, h7, newRow, hn, zeroValue, hz, hrow]

theorem eff_callv (h : Inv G n σ a w) {op : Op} {ty : TypeId} {x : IX} {args : List IX} {d : Option Nat} {K : St → Prop} (hd : dstOK n d = true) (hc : chkOp P op ty (.callv x args) = true) (hw : iwp P (.callv x args) d σ K) : Eff P G n w a op ty d K := by
  cases op <;> first | (simp [chkOp] at hc; done) | skip
  rename_i c
  obtain ⟨callee, ys, ats⟩ := c
  simp only [chkOp] at hc
  split at hc <;> try (cases hc; done)
  rename_i y
  simp only [Bool.and_eq_true] at hc
  obtain ⟨hx, hxs⟩ := hc
  have hb := BR.of_inv h hx
  have hw' : callvW P σ (argsV (xg true σ) args) d K (xg true σ x) := hw
  generalize xg true σ x = xv at hb hw'
  unfold callvW at hw'
  split at hw' <;> try (exact hw'.elim)
  rename_i f first caps
  cases has : argsV (xg true σ) args with
  | none => rw [has] at hw'; exact hw'.elim
  | some as =>
    rw [has] at hw'
    have hv : VR w G.R (.fn f first caps) (a.eval y) := hb
    generalize hev : a.eval y = yv at hv
    cases hv with
    | fn _ _ _ vf vc hl hr hl' hr' =>
    have hargs := h.args hxs has
    obtain ⟨hfs, hw'⟩ := hw'
    unfold fnOK at hfs
    split at hfs <;> try (cases hfs; done)
    rename_i fn hf
    rw [Bool.and_eq_true] at hfs
    refine eff_enter h hd (as := first ++ as ++ caps) (vs := vf ++ (ys.toList.map a.eval).toArray ++ vc) (fun _ _ _ => ?_) ?_ hw'
    · rw [show (ys.toList.map a.eval).toArray = ys.map a.eval from by apply Array.ext'; simp]
      simp [execOp, resolve, hev, Deferred.ofValue, invoke, run_callFunc hf hfs.1 hfs.2]
    · refine ⟨by have := hargs.1; simp at this; simp [hl, hl', this], fun j c u hc hu => ?_⟩
      have h1 := hargs.1
      rw [List.append_assoc, List.getElem?_append] at hc
      rw [Array.append_assoc, Array.getElem?_append] at hu
      by_cases hj : j < first.length
      · rw [if_pos hj] at hc
        rw [if_pos (by omega)] at hu
        exact hr j c u hc hu
      · rw [if_neg hj, List.getElem?_append] at hc
        rw [if_neg (by omega), Array.getElem?_append, hl, h1] at hu
        by_cases hj2 : j - first.length < as.length
        · rw [if_pos hj2] at hc hu
          exact hargs.2 _ c u hc hu
        · rw [if_neg hj2] at hc hu
          exact hr' _ c u hc hu

theorem eff_makeSl (h : Inv G n σ a w) {op : Op} {ty : TypeId} {sz by' : Nat} {z : List AV} {l c : IX} {d : Option Nat} {K : St → Prop} (hd : dstOK n d = true) (hc : chkOp P op ty (.makeSl sz by' z l c) = true) (hw : iwp P (.makeSl sz by' z l c) d σ K) : Eff P G n w a op ty d K := by
  cases op <;> first | (simp [chkOp] at hc; done) | skip
  rename_i t l' c'
  simp only [chkOp, Bool.and_eq_true] at hc
  obtain ⟨⟨hl, hcc⟩, hc⟩ := hc
  split at hc <;> try (cases hc; done)
  rename_i e he
  simp only [Bool.and_eq_true, decide_eq_true_eq] at hc
  obtain ⟨⟨⟨⟨hs, hby⟩, hz⟩, hsz⟩, hbp⟩ := hc
  have hb1 := BR.of_inv h hl
  have hb2 := BR.of_inv h hcc
  have hw' : makeSlW by' z σ d K (xg true σ l) (xg true σ c) := hw
  generalize xg true σ l = lv at hb1 hw'
  generalize xg true σ c = cv at hb2 hw'
  unfold makeSlW at hw'
  split at hw' <;> try (exact hw'.elim)
  rename_i k l0 k' c0
  obtain ⟨q1, q2, q3, q4⟩ := hw'
  obtain ⟨i, v, h1, h2, h3, h4, h5⟩ := zeroIs_eq hz
  obtain ⟨i', h6, h7⟩ := bytesIs_eq hby
  rw [h1] at h6; injection h6 with h6; subst h6
  have e1 := VR.inv_int hb1
  have e2 := VR.inv_int hb2
  have hrow0 := h4 w G.R
  have hcells : v.cells.toList.length = z.length := by simpa using hrow0.1
  have hfl : Fl (List.replicate c0.toNat z).flatten := by
    intro x hx
    simp only [List.mem_flatten, List.mem_replicate] at hx
    obtain ⟨l', ⟨_, rfl⟩, hx⟩ := hx
    exact hrow0.2.2 x hx
  have hcs : ∀ (G' : Gh) (w' : World) (o : Nat → Owner), Pres G w G' w' → CellsR G' w' o (List.replicate c0.toNat z).flatten ((List.replicate c0.toNat v.cells.toList).flatten).toArray := by
    intro G' w' o _
    have hall : ∀ (j : Nat) (x : AV) (y : Value), ((List.replicate c0.toNat z).flatten)[j]? = some x → ((List.replicate c0.toNat v.cells.toList).flatten)[j]? = some y → cR y x = true := by
      intro j x y hx hy
      have hjz : (List.replicate c0.toNat z).flatten = (List.range (c0.toNat * z.length)).map fun i => z.getD (i % z.length) .undef := flatten_repG .undef z c0.toNat
      have hjv : (List.replicate c0.toNat v.cells.toList).flatten = (List.range (c0.toNat * z.length)).map fun i => v.cells.toList.getD (i % z.length) undef := by rw [flatten_repG undef, hcells]
      rw [hjz, List.getElem?_map] at hx
      rw [hjv, List.getElem?_map] at hy
      cases hrg : (List.range (c0.toNat * z.length))[j]? with
      | none => rw [hrg] at hx; cases hx
      | some q =>
        rw [hrg] at hx hy
        simp only [Option.map_some, Option.some.injEq] at hx hy
        have hzp : 0 < z.length := by
          rcases Nat.eq_zero_or_pos z.length with h0 | h0
          · rw [h0] at hrg; simp at hrg
          · exact h0
        have hlt := Nat.mod_lt q hzp
        refine h5 (q % z.length) x y ?_ ?_
        · rw [← hx]; simp [List.getD_eq_getElem?_getD, hlt]
        · rw [← hy]
          have hlt2 : q % z.length < v.cells.size := by have := hrow0.1; omega
          simp [List.getD_eq_getElem?_getD, hlt2]
    refine ⟨by simp [hcells], fun j x y hx hy => ?_⟩
    have := hall j x y hx (by simpa using hy)
    exact ⟨cR_vr this w' G'.R, cR_own this G' w' _⟩
  obtain ⟨G', g1, g2⟩ := h.newS hd (t := e) (.inr ⟨l0.toNat, c0.toNat, rfl, rfl⟩) hcs hfl
  intro pos after g next Q hn
  refine wp_value (v := .slice (some ⟨w.heap.size, 0, none⟩) l0.toNat c0.toNat) (w' := w.alloc (.cells ((List.replicate c0.toNat v.cells.toList).flatten).toArray e)) ?_ (hn G' _ _ _ g1 g2 (q4 w.heap.size (h.store.get_none h.good)))
  have := run_makeSlice (k := k) (k' := k') (elemOfSl_eq he) h1 h2 (by rw [h3]; simpa using hcells) (by omega) q1 q2 (by rw [h7]; exact q3) w
  simp [execOp, e1, e2, this]

theorem eff_makeOw (h : Inv G n σ a w) {op : Op} {ty : TypeId} {sz by' : Nat} {c : IX} {d : Option Nat} {K : St → Prop} (hd : dstOK n d = true) (hc : chkOp P op ty (.makeOw sz by' c) = true) (hw : iwp P (.makeOw sz by' c) d σ K) : Eff P G n w a op ty d K := by
  cases op <;> first | (simp [chkOp] at hc; done) | skip
  rename_i t l' c'
  simp only [chkOp, Bool.and_eq_true] at hc
  obtain ⟨⟨hl, hcc⟩, hc⟩ := hc
  split at hl <;> try (cases hl; done)
  split at hc <;> try (cases hc; done)
  rename_i e he
  simp only [Bool.and_eq_true, decide_eq_true_eq] at hc
  obtain ⟨⟨⟨⟨hs, hby⟩, hz⟩, hsz⟩, hbp⟩ := hc
  have hb2 := BR.of_inv h hcc
  have hw' : makeOwW sz by' σ d K (xg true σ c) := hw
  generalize xg true σ c = cv at hb2 hw'
  unfold makeOwW at hw'
  split at hw' <;> try (exact hw'.elim)
  rename_i k' c0
  obtain ⟨q2, q3, q4⟩ := hw'
  obtain ⟨i, h1, h3⟩ := sizeIs_eq hs
  obtain ⟨i', h6, h7⟩ := bytesIs_eq hby
  rw [h1] at h6; injection h6 with h6; subst h6
  unfold zeroLen at hz
  rw [h1] at hz
  simp only at hz
  split at hz <;> try (cases hz; done)
  rename_i v h2
  have hcells : v.cells.size = sz := by simpa using hz
  have e2 := VR.inv_int hb2
  obtain ⟨G', g1, g2⟩ := h.newSl (t := e) (c := ((List.replicate c0.toNat v.cells.toList).flatten).toArray) (m := 0) (cs := []) (cap := c0.toNat) (sz := sz) (ob := match d with | some i => .slot i 0 | none => .none) hd (fun i hi => by subst hi; rfl) (fun hn => by subst hn; rfl) (by simp) (Nat.zero_le _) (by simp [hcells]) Fl.nil
    (fun j x hx => by simp at hx) (0, 0) ⟨fun k hk hh => by omega, Nat.le_refl _⟩
  intro pos after g next Q hn
  refine wp_value (v := .slice (some ⟨w.heap.size, 0, none⟩) 0 c0.toNat) (w' := w.alloc (.cells ((List.replicate c0.toNat v.cells.toList).flatten).toArray e)) ?_ (hn G' _ _ _ g1 g2 q4)
  have := run_makeSlice (k := .i64) (k' := k') (l := 0) (elemOfSl_eq he) h1 h2 (by rw [hcells, h3]) (by omega) (Int.le_refl 0) q2 (by rw [h7]; exact q3) w
  have e0 : a.eval (.const (.int .i64 0)) = .int .i64 0 := rfl
  simp [execOp, e0, e2, this]

theorem eff_makeMap (h : Inv G n σ a w) {op : Op} {ty : TypeId} {d : Option Nat} {K : St → Prop} (hd : dstOK n d = true) (hc : chkOp P op ty .makeMap = true) (hw : iwp P .makeMap d σ K) : Eff P G n w a op ty d K := by
  cases op <;> first | (simp [chkOp] at hc; done) | skip
  rename_i t r
  cases r with
  | some r => simp [chkOp] at hc
  | none =>
  have hp := (alloc_facts h.good (.map #[] 0) .sh 0).2.1
  have hs : StoreR (G.upd w.heap.size .sh 0) (w.alloc (.map #[] 0)) (σ.s.set w.heap.size (.map [])) := by
    intro b o hb
    unfold Store.set at hb
    by_cases he : b = w.heap.size
    · rw [if_pos he] at hb
      injection hb with hb
      subst hb; subst he
      exact ⟨by simp, by simp, #[], 0, heap_alloc_new w _, rfl, fun j x y hx => by simp at hx⟩
    · rw [if_neg he] at hb
      exact alloc_store h.store h.good _ .sh 0 b o hb
  obtain ⟨h1, h2⟩ := h.alloc (.map #[] 0) .sh 0 d hd (.mp w.heap.size) (.map (some w.heap.size)) σ.lp hs (fun _ hx => hx) (fun i t' _ ht => ht.elim) (fun i t' _ ⟨cs', hcs'⟩ => by cases hcs')
    (fun i hi => ⟨.mp _, trivial⟩)
  intro pos after g next Q hn
  refine wp_value (v := .map (some w.heap.size)) (w' := w.alloc (.map #[] 0)) ?_ (hn _ _ _ _ (by cases d <;> exact h1) h2 (hw w.heap.size (h.store.get_none h.good)))
  simp [execOp, Instr.makeMap]
end
end Go.AB
