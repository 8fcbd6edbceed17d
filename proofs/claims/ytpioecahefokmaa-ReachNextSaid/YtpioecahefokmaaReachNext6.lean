/- The law ReachNext returns true for every input; each argument reads behind the call as it read before. No condition. -/
import Derived.Test.YtpioecahefokmaaReachNext5
import Derived.ChangeCalls
import Derived.Test.YtpioecahefokmaaRows
import Derived.JoinedCond
set_option linter.unusedSimpArgs false
set_option linter.unusedVariables false
section
namespace Go.AB
open Go Go.RowKit Go.ChangeShapes Go.WideShapes

section
variable {P : Program}

theorem trodAll_below {H : Type} {enc : TypeId × Value → H} (hl : laidOutB P = true) {W W' : World} (hb : Below W.heap.size W W') :
    ∀ {ts : List TypeId} {vs : List Value} {ds : List (DataW H)} {ps : List MemPlace}, (∀ t ∈ ts, P.readableRec t = true ∧ t < P.types.size) → DataW.TrodAll enc P W 0 (fun _ => true) true ts vs ds ps →
      DataW.TrodAll enc P W' 0 (fun b => decide (b < W.heap.size)) true ts vs ds ps
  | [], [], [], _, _, h => h
  | t :: ts, v :: vs, d :: ds, _, hr, h => by
    have hlt := h.lt
    obtain ⟨p, q, h1, h2, rfl⟩ := h
    have ht := hr t List.mem_cons_self
    exact ⟨p, q, Below.trod hl ht.1 ht.2 h1 hb fun x hx => hlt x (List.mem_append_left _ hx), trodAll_below hl hb (fun t ht => hr t (List.mem_cons_of_mem _ ht)) h2, rfl⟩
  | [], _ :: _, _, _, _, h => h.elim
  | [], [], _ :: _, _, _, h => h.elim
  | _ :: _, [], _, _, _, h => h.elim
  | _ :: _, _ :: _, [], _, _, h => h.elim

/-- What a law's row asks, once its call returns true and turns nothing that was there. -/
theorem law_post {H : Type} {enc : TypeId × Value → H} {fn : Func} {s : ChangeSpec} {f : FuncId} {W : World} {args : Array Value} {ds gs : List (DataW H)} {before : List MemPlace} {tb : TypeId}
    (hvars : s.vars = []) (hres : fn.resultTypes = #[tb]) (htb : P.underlying tb = some .bool) (hl : laidOutB P = true) (hr : ∀ t ∈ fn.params.toList, P.readableRec t = true ∧ t < P.types.size)
    (hspec : ∀ ds : List (DataW H), ds.length = fn.params.toList.length → s.fn H ds = { results := [.lit (.bool true)], args := ds })
    (hW : DataW.Whole enc P fn.params.toList s.vars false W args.toList ds gs before)
    (hc : Calls P f args W fun e w' => e = .returned (.bool true) ∧ Below W.heap.size W w') :
    Calls P f args W fun e W' => ∃ v, e = .returned v ∧ s.post enc P fn false true false false W args v W' := by
  refine hc.mono fun e W' ⟨he, hb⟩ => ⟨.bool true, he, ?_⟩
  have hW' := hW
  obtain ⟨p, q, hA, hV, rfl, hfz, hnd⟩ := hW
  rw [hvars] at hV
  obtain ⟨rfl, rfl⟩ := trodVars_none hV
  have hs := hspec ds (trodAll_length hA).2
  refine ⟨ds, [], _, [], p, [], hW', ?_, ?_, ?_, ?_, fun h => by cases h⟩
  · rw [List.append_nil, hs, hres]
    exact trodAll_mk1 (shut_bool htb true)
  · rw [List.append_nil, hs]
    exact trodAll_below hl hb hr hA
  · rw [List.append_nil, hs, hvars]
    exact rfl
  · exact World.keptBut_mono (fun p hp => hp.elim) (hb.frame fun _ => False)

/-! Products. -/
def OpensF (P : Program) (fs : List (TypeId × Nat)) (o : Nat) {α : Type} (n : Nat) (C : α → List AV) (wf : α → Prop) : Prop :=
  ∀ (H : Type) (enc : TypeId × Value → H) (w : World) (fuel : Nat) (cs : List Value), (∀ f ∈ fs, ∃ x, DataW.trod enc P w 0 (fun _ => true) true fuel f.1 ((cs.drop f.2).take (P.cellsOf f.1)) = some x) →
    ∃ a : α, wf a ∧ Fl (C a) ∧ ∃ N0, ∀ N, N0 ≤ N → VRs w (bigR N w) (C a) ((cs.drop o).take n)

theorem opensF_nil {o : Nat} : OpensF P [] o 0 (fun _ : Unit => []) fun _ => True :=
  fun _ _ _ _ _ _ => ⟨(), trivial, (fun _ h => absurd h List.not_mem_nil), 0, fun _ _ => ⟨by simp, fun j a v h => by simp at h⟩⟩
theorem opensF_cons {t : TypeId} {o n1 n2 : Nat} {fs : List (TypeId × Nat)} {α β : Type} {C1 : α → List AV} {C2 : β → List AV} {wf1 : α → Prop} {wf2 : β → Prop}
    (h1 : OpensC P t n1 C1 wf1) (hc : P.cellsOf t = n1) (h2 : OpensF P fs (o + n1) n2 C2 wf2) : OpensF P ((t, o) :: fs) o (n1 + n2) (fun p : α × β => C1 p.1 ++ C2 p.2) fun p => wf1 p.1 ∧ wf2 p.2 := by
  intro H enc w fuel cs h
  obtain ⟨x, hx⟩ := h _ List.mem_cons_self
  obtain ⟨_, a, ha, hfa, N1, hN1⟩ := h1 H enc w fuel _ x hx
  obtain ⟨b, hb, hfb, N2, hN2⟩ := h2 H enc w fuel cs fun f hf => h f (List.mem_cons_of_mem _ hf)
  refine ⟨(a, b), ⟨ha, hb⟩, fun c hc => (List.mem_append.1 hc).elim (hfa c) (hfb c), max N1 N2, fun N hN => ?_⟩
  rw [List.take_add, List.drop_drop]
  refine VRs.append ?_ (hN2 N (by omega))
  rw [← hc]
  exact hN1 N (by omega)
theorem OpensC.map {t : TypeId} {n : Nat} {α β : Type} {C : α → List AV} {wf : α → Prop} (h : OpensC P t n C wf) {C' : β → List AV} {wf' : β → Prop} (g : α → β) (hC : ∀ a, C' (g a) = C a) (hw : ∀ a, wf a → wf' (g a)) : OpensC P t n C' wf' := by
  intro H enc w fuel cs x hx
  obtain ⟨h1, a, h2, h3, N0, h4⟩ := h H enc w fuel cs x hx
  exact ⟨h1, g a, hw a h2, by rw [hC]; exact h3, N0, by rw [hC]; exact h4⟩
theorem opens_struct {t : TypeId} {fs : Array Field} {n : Nat} {α : Type} {C : α → List AV} {wf : α → Prop} (ht : P.underlying t = some (.struct fs)) (hn : P.cellsOf t = n)
    (hf : OpensF P (fs.toList.map fun f => (f.type, f.offset)) 0 n C wf) : OpensC P t n C wf := by
  intro H enc w fuel cs x h
  obtain ⟨xs, m, _, _, hl, hxl, hel⟩ := DataW.trod_struct ht h
  obtain ⟨a, ha, hfa, N0, hN⟩ := hf H enc w m cs fun f hf => by
    obtain ⟨g, hg, rfl⟩ := List.mem_map.1 hf
    obtain ⟨i, hi⟩ := List.getElem?_of_mem hg
    have h1 := hel i g (by rw [← Array.getElem?_toList]; exact hi)
    have hi' := (List.getElem?_eq_some_iff.1 hi).1
    rw [List.getElem?_eq_getElem (by simpa [hxl] using hi')] at h1
    exact ⟨_, h1⟩
  refine ⟨by rw [hl, hn], a, ha, hfa, N0, fun N h => ?_⟩
  have := hN N h
  rwa [List.drop_zero, List.take_of_length_le (by omega)] at this
theorem opens_array {t e : TypeId} {m k n : Nat} {α : Type} {C : α → List AV} {wf : α → Prop} (ht : P.underlying t = some (.array m e)) (hn : P.cellsOf t = n) (hk : P.cellsOf e = k)
    (hf : OpensF P ((List.range m).map fun i => (e, i * k)) 0 n C wf) : OpensC P t n C wf := by
  intro H enc w fuel cs x h
  obtain ⟨xs, q, _, _, hl, hxl, hel⟩ := DataW.trod_array ht h
  obtain ⟨a, ha, hfa, N0, hN⟩ := hf H enc w q cs fun f hf => by
    obtain ⟨i, hi, rfl⟩ := List.mem_map.1 hf
    have hi' := List.mem_range.1 hi
    have h1 := hel i hi'
    rw [List.getElem?_eq_getElem (by omega), hk] at h1
    rw [hk]
    exact ⟨_, h1⟩
  refine ⟨by rw [hl, hn], a, ha, hfa, N0, fun N h => ?_⟩
  have := hN N h
  rwa [List.drop_zero, List.take_of_length_le (by omega)] at this

/-! Arguments. -/
section
variable {H : Type} {enc : TypeId × Value → H} {w : World} {t : TypeId} {α : Type} [Enc α] {wf : α → Prop} {b0 : Nat} {v : Value} {d : DataW H} {ps : List MemPlace}
theorem open_agg (hs : (∃ fs, P.underlying t = some (.struct fs)) ∨ ∃ n e, P.underlying t = some (.array n e)) (he : Opens P t α wf) (hval : Value.okWide P w .any b0 t v) (h : DataW.Trod enc P w 0 (fun _ => true) true t v d ps) :
    ∃ a : α, wf a ∧ ∃ N0, ∀ N, N0 ≤ N → VR w (bigR N w) (.agg (Enc.cells a)) v := by
  have hv : ∃ cs, v = .agg cs := by
    unfold Value.okWide at hval
    rcases hs with ⟨fs, hs⟩ | ⟨n, e, hs⟩ <;> rw [hs] at hval <;> obtain ⟨cs, rfl, _⟩ := hval <;> exact ⟨cs, rfl⟩
  obtain ⟨cs, rfl⟩ := hv
  obtain ⟨fuel, hf⟩ := h
  obtain ⟨_, a, ha, hfl, N0, hN⟩ := he H enc w fuel _ _ hf
  refine ⟨a, ha, N0, fun N h => ?_⟩
  have h1 := hN N h
  exact .agg _ _ hfl (by simpa [Value.cells] using h1.1) fun j c v h2 h3 => h1.2 j c v h2 (by simpa [Value.cells] using h3)
theorem open_plain (hs : ∀ cs, v ≠ .agg cs) (he : Opens P t α wf) (h : DataW.Trod enc P w 0 (fun _ => true) true t v d ps) :
    ∃ a : α, wf a ∧ ∃ N0, ∀ N, N0 ≤ N → VRs w (bigR N w) (Enc.cells a) [v] := by
  obtain ⟨fuel, hf⟩ := h
  obtain ⟨_, a, ha, _, N0, hN⟩ := he H enc w fuel _ _ hf
  refine ⟨a, ha, N0, fun N h => ?_⟩
  have h1 := hN N h
  have : v.cells.toList = [v] := by
    cases v <;> first | rfl | exact absurd rfl (hs _)
  rwa [this] at h1
theorem VRs.head {R : Nat → Nat} {a : AV} (h : VRs w R [a] [v]) : VR w R a v := h.2 0 a v rfl rfl
theorem open_i64 (ht : P.underlying t = some (.int .i64)) (hval : Value.okWide P w .any b0 t v) (h : DataW.Trod enc P w 0 (fun _ => true) true t v d ps) :
    ∃ n : Int, (-9223372036854775808 ≤ n ∧ n ≤ 9223372036854775807) ∧ ∃ N0, ∀ N, N0 ≤ N → VR w (bigR N w) (.int .i64 n) v := by
  obtain ⟨n, rfl, _⟩ := open_int ht hval h
  obtain ⟨a, ha, N0, hN⟩ := open_plain (fun _ h => by cases h) (opens_int ht) h
  exact ⟨a, ha, N0, fun N h => (hN N h).head⟩
theorem open_byte (ht : P.underlying t = some (.int .u8)) (hval : Value.okWide P w .any b0 t v) (h : DataW.Trod enc P w 0 (fun _ => true) true t v d ps) :
    ∃ n : UInt8, True ∧ ∃ N0, ∀ N, N0 ≤ N → VR w (bigR N w) (.int .u8 n.toNat) v := by
  obtain ⟨n, rfl, _⟩ := open_int ht hval h
  obtain ⟨a, ha, N0, hN⟩ := open_plain (fun _ h => by cases h) (opens_u8 ht) h
  exact ⟨a, ha, N0, fun N h => (hN N h).head⟩
theorem open_w32 (ht : P.underlying t = some (.int .u32)) (hval : Value.okWide P w .any b0 t v) (h : DataW.Trod enc P w 0 (fun _ => true) true t v d ps) :
    ∃ n : UInt32, True ∧ ∃ N0, ∀ N, N0 ≤ N → VR w (bigR N w) (.int .u32 n.toNat) v := by
  obtain ⟨n, rfl, _⟩ := open_int ht hval h
  obtain ⟨a, ha, N0, hN⟩ := open_plain (fun _ h => by cases h) (opens_u32 ht) h
  exact ⟨a, ha, N0, fun N h => (hN N h).head⟩
theorem open_w64 (ht : P.underlying t = some (.int .u64)) (hval : Value.okWide P w .any b0 t v) (h : DataW.Trod enc P w 0 (fun _ => true) true t v d ps) :
    ∃ n : UInt64, True ∧ ∃ N0, ∀ N, N0 ≤ N → VR w (bigR N w) (.int .u64 n.toNat) v := by
  obtain ⟨n, rfl, _⟩ := open_int ht hval h
  obtain ⟨a, ha, N0, hN⟩ := open_plain (fun _ h => by cases h) (opens_u64 ht) h
  exact ⟨a, ha, N0, fun N h => (hN N h).head⟩
theorem open_truth (ht : P.underlying t = some .bool) (hval : Value.okWide P w .any b0 t v) (h : DataW.Trod enc P w 0 (fun _ => true) true t v d ps) :
    ∃ b : Bool, True ∧ ∃ N0, ∀ N, N0 ≤ N → VR w (bigR N w) (.bool b) v := by
  obtain ⟨n, rfl, _⟩ := open_bool ht hval h
  exact ⟨n, trivial, 0, fun N _ => .bool n⟩
theorem open_text (ht : P.underlying t = some .string) (hval : Value.okWide P w .any b0 t v) (h : DataW.Trod enc P w 0 (fun _ => true) true t v d ps) :
    ∃ s : Str, s.b.length ≤ maxLen ∧ ∃ N0, ∀ N, N0 ≤ N → VR w (bigR N w) (.str s.b) v := by
  obtain ⟨n, rfl, _⟩ := Go.ChangeMaps.open_string ht hval h
  obtain ⟨a, ha, N0, hN⟩ := open_plain (fun _ h => by cases h) (opens_str ht) h
  exact ⟨a, ha, N0, fun N h => (hN N h).head⟩
end

theorem args1 {w : World} {R : Nat → Nat} {a0 : AV} {v0 : Value} (h0 : VR w R a0 v0) : ArgsR w R [a0] #[v0] :=
  ⟨rfl, fun j a v h1 h2 => by match j, h1, h2 with | 0, h1, h2 => (cases h1; cases h2; exact h0)⟩
theorem args2 {w : World} {R : Nat → Nat} {a0 a1 : AV} {v0 v1 : Value} (h0 : VR w R a0 v0) (h1 : VR w R a1 v1) : ArgsR w R [a0, a1] #[v0, v1] :=
  ⟨rfl, fun j a v k1 k2 => by match j, k1, k2 with | 0, k1, k2 => (cases k1; cases k2; exact h0) | 1, k1, k2 => (cases k1; cases k2; exact h1)⟩
theorem args3 {w : World} {R : Nat → Nat} {a0 a1 a2 : AV} {v0 v1 v2 : Value} (h0 : VR w R a0 v0) (h1 : VR w R a1 v1) (h2 : VR w R a2 v2) : ArgsR w R [a0, a1, a2] #[v0, v1, v2] :=
  ⟨rfl, fun j a v k1 k2 => by match j, k1, k2 with | 0, k1, k2 => (cases k1; cases k2; exact h0) | 1, k1, k2 => (cases k1; cases k2; exact h1) | 2, k1, k2 => (cases k1; cases k2; exact h2)⟩
end
end Go.AB
end

section
namespace Go.AB
open Go

def fieldsAre (P : Program) (t : TypeId) (L : List (TypeId × Nat)) : Bool := match P.underlying t with
  | some (.struct fs) => fs.toList.map (fun f => (f.type, f.offset)) == L
  | _ => false
theorem opens_fields {P : Program} {t : TypeId} {L : List (TypeId × Nat)} {n : Nat} {α : Type} {C : α → List AV} {wf : α → Prop} (hs : fieldsAre P t L = true) (hn : P.cellsOf t = n) (hf : OpensF P L 0 n C wf) : OpensC P t n C wf := by
  unfold fieldsAre at hs
  split at hs
  · rename_i fs ht
    have he := eq_of_beq hs
    exact opens_struct ht hn (by rw [he]; exact hf)
  · cases hs
end Go.AB
end

section
namespace Go.AB
open Go Go.RowKit Go.ChangeShapes Go.WideShapes

/-- What cells of a Go type read as, up to a depth. -/
def OpensB (K : Nat) (P : Program) (t : TypeId) {α : Type} (n : Nat) (C : α → List AV) (wf : α → Prop) : Prop :=
  ∀ (H : Type) (enc : TypeId × Value → H) (w : World) (fuel : Nat) (cs : List Value) (x : DataW H × List MemPlace), fuel ≤ K → DataW.trod enc P w 0 (fun _ => true) true fuel t cs = some x →
    cs.length = n ∧ ∃ a : α, wf a ∧ Fl (C a) ∧ ∃ N0, ∀ N, N0 ≤ N → VRs w (bigR N w) (C a) cs
def OpensFB (K : Nat) (P : Program) (fs : List (TypeId × Nat)) (o : Nat) {α : Type} (n : Nat) (C : α → List AV) (wf : α → Prop) : Prop :=
  ∀ (H : Type) (enc : TypeId × Value → H) (w : World) (fuel : Nat) (cs : List Value), fuel ≤ K → (∀ f ∈ fs, ∃ x, DataW.trod enc P w 0 (fun _ => true) true fuel f.1 ((cs.drop f.2).take (P.cellsOf f.1)) = some x) →
    ∃ a : α, wf a ∧ Fl (C a) ∧ ∃ N0, ∀ N, N0 ≤ N → VRs w (bigR N w) (C a) ((cs.drop o).take n)

section
variable {P : Program} {t : TypeId}

theorem OpensC.b {n : Nat} {α : Type} {C : α → List AV} {wf : α → Prop} (h : OpensC P t n C wf) (K : Nat) : OpensB K P t n C wf := fun H enc w fuel cs x _ hx => h H enc w fuel cs x hx
theorem OpensB.all {n : Nat} {α : Type} {C : α → List AV} {wf : α → Prop} (h : ∀ K, OpensB K P t n C wf) : OpensC P t n C wf := fun H enc w fuel cs x hx => h fuel H enc w fuel cs x (Nat.le_refl _) hx
theorem OpensB.le {n : Nat} {α : Type} {C : α → List AV} {wf : α → Prop} {K K' : Nat} (h : OpensB K P t n C wf) (hk : K' ≤ K) : OpensB K' P t n C wf := fun H enc w fuel cs x hf hx => h H enc w fuel cs x (Nat.le_trans hf hk) hx
theorem OpensB.zero {n : Nat} {α : Type} {C : α → List AV} {wf : α → Prop} : OpensB 0 P t n C wf := fun H enc w fuel cs x hf hx => by
  have : fuel = 0 := by omega
  subst this
  simp [DataW.trod] at hx
theorem OpensB.map {K n : Nat} {α β : Type} {C : α → List AV} {wf : α → Prop} (h : OpensB K P t n C wf) {C' : β → List AV} {wf' : β → Prop} (g : α → β) (hC : ∀ a, C' (g a) = C a) (hw : ∀ a, wf a → wf' (g a)) : OpensB K P t n C' wf' := by
  intro H enc w fuel cs x hf hx
  obtain ⟨h1, a, h2, h3, N0, h4⟩ := h H enc w fuel cs x hf hx
  exact ⟨h1, g a, hw a h2, by rw [hC]; exact h3, N0, by rw [hC]; exact h4⟩

theorem opensFB_nil {K o : Nat} : OpensFB K P [] o 0 (fun _ : Unit => []) fun _ => True :=
  fun _ _ _ _ _ _ _ => ⟨(), trivial, (fun _ h => absurd h List.not_mem_nil), 0, fun _ _ => ⟨by simp, fun j a v h => by simp at h⟩⟩
theorem opensFB_cons {K : Nat} {t : TypeId} {o n1 n2 : Nat} {fs : List (TypeId × Nat)} {α β : Type} {C1 : α → List AV} {C2 : β → List AV} {wf1 : α → Prop} {wf2 : β → Prop}
    (h1 : OpensB K P t n1 C1 wf1) (hc : P.cellsOf t = n1) (h2 : OpensFB K P fs (o + n1) n2 C2 wf2) : OpensFB K P ((t, o) :: fs) o (n1 + n2) (fun p : α × β => C1 p.1 ++ C2 p.2) fun p => wf1 p.1 ∧ wf2 p.2 := by
  intro H enc w fuel cs hk h
  obtain ⟨x, hx⟩ := h _ List.mem_cons_self
  obtain ⟨_, a, ha, hfa, N1, hN1⟩ := h1 H enc w fuel _ x hk hx
  obtain ⟨b, hb, hfb, N2, hN2⟩ := h2 H enc w fuel cs hk fun f hf => h f (List.mem_cons_of_mem _ hf)
  refine ⟨(a, b), ⟨ha, hb⟩, fun c hc => (List.mem_append.1 hc).elim (hfa c) (hfb c), max N1 N2, fun N hN => ?_⟩
  rw [List.take_add, List.drop_drop]
  refine VRs.append ?_ (hN2 N (by omega))
  rw [← hc]
  exact hN1 N (by omega)

theorem opens_fieldsB {K : Nat} {L : List (TypeId × Nat)} {n : Nat} {α : Type} {C : α → List AV} {wf : α → Prop} (hs : fieldsAre P t L = true) (hn : P.cellsOf t = n) (hf : OpensFB K P L 0 n C wf) : OpensB (K + 1) P t n C wf := by
  unfold fieldsAre at hs
  split at hs
  · rename_i fs ht
    have he := eq_of_beq hs
    subst he
    intro H enc w fuel cs x hk h
    obtain ⟨xs, m, rfl, _, hl, hxl, hel⟩ := DataW.trod_struct ht h
    obtain ⟨a, ha, hfa, N0, hN⟩ := hf H enc w m cs (by omega) fun f hf => by
      obtain ⟨g, hg, rfl⟩ := List.mem_map.1 hf
      obtain ⟨i, hi⟩ := List.getElem?_of_mem hg
      have h1 := hel i g (by rw [← Array.getElem?_toList]; exact hi)
      have hi' := (List.getElem?_eq_some_iff.1 hi).1
      rw [List.getElem?_eq_getElem (by simpa [hxl] using hi')] at h1
      exact ⟨_, h1⟩
    refine ⟨by rw [hl, hn], a, ha, hfa, N0, fun N h => ?_⟩
    have := hN N h
    rwa [List.drop_zero, List.take_of_length_le (by omega)] at this
  · cases hs

/-- A slice of them, as a cell. -/
theorem slice_cell {w : World} {α : Type} [Enc α] {wf : α → Prop} {a : Addr} {len cap : Nat} (hl : len ≤ cap) (hm : cap ≤ maxLen)
    (each : ∀ i, i < len → ∃ x : α × List Value, wf x.1 ∧ Fl (Enc.cells x.1) ∧ w.cells? 0 (a.add (i * Enc.w α)) (Enc.w α) = some x.2 ∧ ∃ N0, ∀ N, N0 ≤ N → VRs w (bigR N w) (Enc.cells x.1) x.2) :
    ∃ l : List α, (l.length ≤ maxLen ∧ ∀ a ∈ l, wf a) ∧ Fl [.sl false (Enc.w α) l.length (flat l)] ∧ ∃ N0, ∀ N, N0 ≤ N → VRs w (bigR N w) [.sl false (Enc.w α) l.length (flat l)] [.slice (some a) len cap] := by
  have hw : 0 < Enc.w α := Enc.pos
  rcases Nat.eq_zero_or_pos len with h0 | h0
  · subst h0
    exact ⟨[], ⟨Nat.zero_le _, fun _ h => absurd h List.not_mem_nil⟩, fl_one rfl, 0, fun N _ => .one (.sle _ _ _)⟩
  obtain ⟨b, off, spot⟩ := a
  have hplain : spot = none ∧ b < w.heap.size := by
    obtain ⟨x, _, _, h2, _⟩ := each 0 h0
    obtain ⟨_, h3, h4⟩ := World.cells?_some h2
    have h5 := h4 0 hw
    have hxl : 0 < x.2.length := by omega
    rw [List.getElem?_eq_getElem hxl] at h5
    unfold World.cell? at h5
    have e1 : (((⟨b, off, spot⟩ : Addr).add (0 * Enc.w α)).add 0).block = b := by
      unfold Addr.add; repeat' split
      all_goals rfl
    have e2 : (((⟨b, off, spot⟩ : Addr).add (0 * Enc.w α)).add 0).spot.isSome = spot.isSome := by
      cases spot with
      | none => unfold Addr.add; repeat' split
                all_goals simp_all
      | some q => unfold Addr.add; repeat' split
                  all_goals simp_all
    rw [e1, e2] at h5
    split at h5
    · rename_i hh
      refine ⟨?_, (Array.getElem?_eq_some_iff.1 hh).1⟩
      cases spot with
      | none => rfl
      | some q => simp at h5
    · cases h5
  obtain ⟨rfl, hb⟩ := hplain
  obtain ⟨L, hL, hQ⟩ := choose_list len each
  have hx : ∀ i, i < len → ∃ x, L[i]? = some x := fun i hi => ⟨L[i]'(by omega), List.getElem?_eq_getElem (by omega)⟩
  obtain ⟨N0, hN0⟩ := common (Q := fun i N => ∀ x, L[i]? = some x → VRs w (bigR N w) (Enc.cells x.1) x.2) len fun i hi => by
    obtain ⟨x, hx⟩ := hx i hi
    obtain ⟨_, _, _, N0, h⟩ := hQ i x hx
    exact ⟨N0, fun N hN y hy => by rw [hx] at hy; cases hy; exact h N hN⟩
  have hwf : ∀ a ∈ L.map (·.1), wf a ∧ Fl (Enc.cells a) := by
    intro a ha
    obtain ⟨x, hx, rfl⟩ := List.mem_map.1 ha
    obtain ⟨i, hi⟩ := List.getElem?_of_mem hx
    have := hQ i x hi
    exact ⟨this.1, this.2.1⟩
  have hget : ∀ (j : Nat) (c : AV), (flat (L.map (·.1)))[j]? = some c → ∃ v, w.cell? ⟨b, off + j, none⟩ = some v ∧ ∀ N, N0 ≤ N → VR w (bigR N w) c v := by
    intro j c hj
    have hjl := (List.getElem?_eq_some_iff.1 hj).1
    rw [flat_len, List.length_map, hL] at hjl
    have hi : j / Enc.w α < len := Nat.div_lt_of_lt_mul (by rw [Nat.mul_comm]; exact hjl)
    have hr : j % Enc.w α < Enc.w α := Nat.mod_lt _ hw
    have hje : j = j / Enc.w α * Enc.w α + j % Enc.w α := by rw [Nat.mul_comm]; exact (Nat.div_add_mod _ _).symm
    obtain ⟨x, hx⟩ := hx _ hi
    have h1 := flat_get (L.map (·.1)) (i := j / Enc.w α) (a := x.1) (by rw [List.getElem?_map, hx]; rfl) hr
    rw [← hje, hj] at h1
    obtain ⟨_, _, h2, _⟩ := hQ _ x hx
    obtain ⟨_, h3, h4⟩ := World.cells?_some h2
    have h5 := h4 _ hr
    rw [add_plain, add_plain, Nat.add_assoc, ← hje] at h5
    refine ⟨x.2[j % Enc.w α]'(by omega), by rw [h5, List.getElem?_eq_getElem], fun N hN => ?_⟩
    exact (hN0 N hN _ hi x hx).2 _ _ _ h1.symm (List.getElem?_eq_getElem _)
  refine ⟨L.map (·.1), ⟨by rw [List.length_map, hL]; omega, fun a ha => (hwf a ha).1⟩, fl_one rfl, max N0 (off + len * Enc.w α), fun N hN => .one ?_⟩
  rw [List.length_map, hL]
  refine .sl false (Enc.w α) len _ b off cap (fun j => (w.cell? ⟨b, off + j, none⟩).getD default) ?_ ?_ ?_ hl ?_ ?_
  · intro c hcm
    unfold flat at hcm
    obtain ⟨l, hl, hcl⟩ := List.mem_flatten.1 hcm
    obtain ⟨a, ha, rfl⟩ := List.mem_map.1 hl
    exact (hwf a ha).2 c hcl
  · rw [flat_len, List.length_map, hL]
  · rw [flat_len, List.length_map, hL]
    unfold bigR
    rw [if_pos hb]; omega
  · intro j c hj
    obtain ⟨v, h1, _⟩ := hget j c hj
    rw [h1]; rfl
  · intro j c hj
    obtain ⟨v, h1, h2⟩ := hget j c hj
    simp only [h1, Option.getD_some]; exact h2 N (by omega)

theorem opens_sliceB {K : Nat} {e : TypeId} {α : Type} [Enc α] {wf : α → Prop} (ht : P.underlying t = some (.slice e)) (hc : P.cellsOf e = Enc.w α) (he : OpensB K P e (Enc.w α) (Enc.cells : α → List AV) wf) :
    OpensB (K + 1) P t 1 (fun l : List α => [.sl false (Enc.w α) l.length (flat l)]) fun l => l.length ≤ maxLen ∧ ∀ a ∈ l, wf a := by
  intro H enc w fuel cs x hk h
  rcases DataW.trod_slice ht h with ⟨rfl, _⟩ | ⟨a, len, cap, elems, rest, n, rfl, rfl, _, _, hl, hm, hlen, hel, _⟩
  · exact ⟨rfl, [], ⟨Nat.zero_le _, fun _ h => absurd h List.not_mem_nil⟩, fl_one rfl, 0, fun N _ => .one (.slnil _ _)⟩
  · refine ⟨rfl, slice_cell hl hm fun i hi => ?_⟩
    have h1 := hel i hi
    rw [hc, List.getElem?_eq_getElem (by omega), Option.bind_eq_some_iff] at h1
    obtain ⟨cs, h2, h3⟩ := h1
    obtain ⟨_, x, h4, h5, h6⟩ := he H enc w n cs _ (by omega) h3
    exact ⟨(x, cs), h4, h5, h2, h6⟩
theorem opens_sliceC {e : TypeId} {α : Type} [Enc α] {wf : α → Prop} (ht : P.underlying t = some (.slice e)) (hc : P.cellsOf e = Enc.w α) (he : Opens P e α wf) :
    OpensC P t 1 (fun l : List α => [.sl false (Enc.w α) l.length (flat l)]) fun l => l.length ≤ maxLen ∧ ∀ a ∈ l, wf a :=
  OpensB.all fun K => (opens_sliceB ht hc (OpensC.b he K)).le (Nat.le_succ K)

theorem fieldsAre_ex {L : List (TypeId × Nat)} (hs : fieldsAre P t L = true) : ∃ fs, P.underlying t = some (.struct fs) := by
  unfold fieldsAre at hs
  split at hs
  · rename_i fs ht; exact ⟨fs, ht⟩
  · cases hs
theorem okWide_slice {w : World} {e : TypeId} {b0 : Nat} {v : Value} (ht : P.underlying t = some (.slice e)) (hval : Value.okWide P w .any b0 t v) : ∀ cs, v ≠ .agg cs := by
  intro cs h
  subst h
  unfold Value.okWide Cell.okWide Cell.ok at hval
  rw [ht] at hval
  exact hval
/-- An argument that is a slice. -/
theorem open_row {H : Type} {enc : TypeId × Value → H} {w : World} {e : TypeId} {α : Type} [Enc α] {wf : α → Prop} {v : Value} {d : DataW H} {ps : List MemPlace}
    (ht : P.underlying t = some (.slice e)) (hc : P.cellsOf e = Enc.w α) (he : Opens P e α wf) (h : DataW.Trod enc P w 0 (fun _ => true) true t v d ps) (hv : ∀ cs, v ≠ .agg cs) :
    ∃ l : List α, (l.length ≤ maxLen ∧ ∀ a ∈ l, wf a) ∧ ∃ N0, ∀ N, N0 ≤ N → VR w (bigR N w) (.sl false (Enc.w α) l.length (flat l)) v := by
  obtain ⟨fuel, hf⟩ := h
  obtain ⟨_, l, hl, _, N0, hN⟩ := opens_sliceC ht hc he H enc w fuel _ _ hf
  have hcells : v.cells.toList = [v] := by
    cases v <;> first | rfl | exact absurd rfl (hv _)
  refine ⟨l, hl, N0, fun N h => ?_⟩
  have := hN N h
  rw [hcells] at this
  exact this.head
end
end Go.AB
end

section
set_option linter.unusedSimpArgs false
namespace Go.AB
open Go Go.ChangeShapes Go.WideShapes Go.ChangeAt Go.RowKit Go.Proofs.Ytpioecahefokmaa Go.Proofs

inductive wf_api_Value : api_Value → Prop where
  | mk (x : api_Value) (h1 : -9223372036854775808 ≤ x.Kind ∧ x.Kind ≤ 9223372036854775807) (h2 : -9223372036854775808 ≤ x.N ∧ x.N ≤ 9223372036854775807) (h3 : x.S.b.length ≤ maxLen) (h4 : x.L.length ≤ maxLen) (h5 : ∀ v ∈ x.L, wf_api_Value v) : wf_api_Value x
theorem opens_24 : Opens Go.Proofs.Try.prog 24 api_Value wf_api_Value := by
  refine OpensB.all fun K => ?_
  induction K using Nat.strongRecOn with | ind K ih =>
  cases K with
  | zero => exact OpensB.zero
  | succ K =>
    have hs : OpensB K Go.Proofs.Try.prog 22 1 (fun l : List api_Value => [.sl false 4 l.length (flat l)]) (fun l => l.length ≤ maxLen ∧ ∀ a ∈ l, wf_api_Value a) := by
      cases K with
      | zero => exact OpensB.zero
      | succ k => exact opens_sliceB (by kernel_rfl) (by kernel_rfl) (ih k (by omega))
    exact OpensB.map (opens_fieldsB (L := [(3, 0), (3, 1), (9, 2), (22, 3)]) (by kernel_rfl) (by kernel_rfl) (opensFB_cons ((opens_int (P := Go.Proofs.Try.prog) (t := 3) (by kernel_rfl)).b K) (by kernel_rfl) (opensFB_cons ((opens_int (P := Go.Proofs.Try.prog) (t := 3) (by kernel_rfl)).b K) (by kernel_rfl) (opensFB_cons ((opens_str (P := Go.Proofs.Try.prog) (t := 9) (by kernel_rfl)).b K) (by kernel_rfl) (opensFB_cons hs (by kernel_rfl) opensFB_nil)))))
      (fun p => ⟨p.1, p.2.1, p.2.2.1, p.2.2.2.1⟩) (fun p => by rw [cells_api_Value]; rfl) (fun p h => .mk _ h.1 h.2.1 h.2.2.1 h.2.2.2.1.1 h.2.2.2.1.2)
theorem law21_ReachNext_own : ownKnob Try.prog.godebug = none := by kernel_rfl
theorem law21_ReachNext_laid : laidOutB Try.prog = true := by kernel_rfl
theorem law21_ReachNext_ub : Try.prog.underlying 4 = some .bool := by kernel_rfl
set_option maxRecDepth 100000 in
theorem law21_ReachNext_law {H : Type} {enc : TypeId × Value → H} {W : World} {base : Nat} {args : Array Value} {ds gs : List (DataW H)} {before : List MemPlace}
    (hval0 : ∀ (j : Nat) t v, Try.f3.params[j]? = some t → args[j]? = some v → Value.okWide Try.prog W .any base t v)
    (hW : DataW.Whole enc Try.prog Try.f3.params.toList Rows.reachNextSpec.vars false W args.toList ds gs before) :
    Calls Try.prog 3 args W fun e w' => e = .returned (.bool true) ∧ Below W.heap.size W w' := by
  obtain ⟨p, q, hA0, hV, rfl, hfz, hnd⟩ := hW
  have hval := hval0
  have hA : DataW.TrodAll enc Try.prog W 0 (fun _ => true) true Try.f3.params.toList args.toList ds p := hA0
  have hp : Try.f3.params = #[24, 24] := by kernel_rfl
  rw [hp] at hA hval
  obtain ⟨v0, v1, d0, d1, p0, p1, rfl, rfl, rfl, h0, h1⟩ := trodAll_two hA
  obtain ⟨x0, w0, N0, k0⟩ := open_agg (.inl (fieldsAre_ex (L := [(3, 0), (3, 1), (9, 2), (22, 3)]) (by kernel_rfl))) opens_24 (hval 0 24 v0 rfl rfl) h0
  obtain ⟨x1, w1, N1, k1⟩ := open_agg (.inl (fieldsAre_ex (L := [(3, 0), (3, 1), (9, 2), (22, 3)]) (by kernel_rfl))) opens_24 (hval 1 24 v1 rfl rfl) h1
  refine law_calls' (max N0 N1) ?_ (args2 (k0 _ (by omega)) (k1 _ (by omega)))
  have hfe := law21_ReachNext_fe (s := noStore) (law21_ReachNext_true x0 x1)
  refine FE.app (Q := fun rs _ => rs = [.bool true]) (rs := [.bool true]) (s' := noStore) ?_ rfl
  rw [cells_api_Value, cells_api_Value]
  exact hfe

end Go.AB
namespace Go.Proofs.Ytpioecahefokmaa
open Go.ChangeShapes Go.WideShapes Go.ChangeAt Go.RowKit
set_option maxRecDepth 100000 in
theorem reachNext_lifted (os : Os) (started : os.Started) (H : Type) (enc : TypeId × Value → H) :
    ReturnsInHanded {} Try.checked os 3 .any (Rows.reachNextSpec.pre6 enc Try.prog Try.f3 Rows.reachNextRow.domain false) (Rows.reachNextSpec.post enc Try.prog Try.f3 false true false false) := by
  refine returnsInHanded_of_change (C := Try.checked) AB.law21_ReachNext_own started (by kernel_rfl) Try.func3
    (ChangeSpec.witness6 (enc := enc) (C := Try.checked) false ⟨#[], #[.agg #[.int .i64 0, .int .i64 0, .string ⟨#[]⟩, .slice none 0 0], .agg #[.int .i64 0, .int .i64 0, .string ⟨#[]⟩, .slice none 0 0]], []⟩ 8 (by kernel_rfl) (by kernel_rfl) (by kernel_rfl) (by kernel_rfl)) ?_
  intro W base args ds gs before hval hW _ _
  exact AB.law_post rfl (by kernel_rfl) AB.law21_ReachNext_ub AB.law21_ReachNext_laid (of_decide_eq_true (by kernel_rfl)) (fun ds h => by
    match ds, h with
    | [_, _], _ => rfl) hW (AB.law21_ReachNext_law hval hW)

theorem reachNext_holds : Rows.ReachNextSaid :=
  OpenClaim.holds_of_wide 3 Try.f3 rfl rfl rfl rfl rfl rfl rfl ⟨rfl, rfl, rfl, rfl, rfl⟩ rfl rfl rfl rfl rfl (by kernel_rfl) Try.func3 (by kernel_rfl)
    (of_decide_eq_true (by kernel_rfl)) (by unfold Func.isWrapper; first | (rw [if_pos (by decide +kernel)]; kernel_rfl) | (rw [if_neg (by decide +kernel)]; exact ⟨rfl, rfl⟩))
    (fun os started H enc _ => reachNext_lifted os started H enc)
end Go.Proofs.Ytpioecahefokmaa
end
