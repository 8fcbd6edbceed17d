/- A part of the proof: Rg1, Sort1, Spl, Rg2, Rg3, Rg4, Spj, Se, Sr, Ho, Rh0, Spk, Rm, Spw. -/
import Derived.Test.YtpioecahefokmaaRangesMissing4
import Derived.Shelf.SlSortCmp.WholeK
import Derived.Test.YtpioecahefokmaaProg
import Derived.Ground.SlsfProg
set_option linter.unusedSimpArgs false
set_option linter.unusedVariables false
section
set_option maxRecDepth 4000
namespace Go.AB
open Go
theorem index_args_spn {T : Type} [Enc T] {w : World} {R R' : Nat → Nat} {b cap f : Nat} {l : List T} {vs : Array Value} (mono : ∀ a u, VR w R a u → VR w R' a u) (hv : ∀ u, VR w R (.arr b 0 l.length cap) u → VR w R' (.sl false 2 l.length (flat l)) u)
    (ha : ArgsR w R [.arr b 0 l.length cap, .fn f [] []] vs) : ArgsR w R' [.sl false 2 l.length (flat l), .fn f [] []] vs := by
  refine ⟨ha.1, fun j a v hj hvs => ?_⟩
  match j, hj with
  | 0, hj => cases hj; exact hv v (ha.2 0 _ v rfl hvs)
  | 1, hj => cases hj; exact mono _ _ (ha.2 1 _ v rfl hvs)

theorem index_row_spn {b cap : Nat} {l : List api_Span} {sp : List AV} {r : Int} {s : Store} {Q : List AV → Store → Prop} (hs : s b = some (.cells (flat l ++ sp))) (hn : l.length ≤ cap) (h : slices_IndexFuncapi_Span_api_Span l = some r) (hq : Q [.int .i64 r] s) :
    FN Go.Proofs.Try.prog 126 [.arr b 0 l.length cap, .fn 111 [] []] s Q := by
  refine FN.borrow b (l.length * 2) (args' := [.sl false 2 l.length (flat l), .fn 111 [] []]) (FE.app (slices_IndexFuncapi_Span_api_Span_fe h) ⟨rfl, hq⟩) fun G w vs hst ha => ?_
  refine index_args_spn (fun a u h => h.mono (fun i => ?_) fun _ _ _ => rfl) (fun u hu => arr_view hst (flat_len l) hn (flat_views l) (fun _ => ⟨sp, hs⟩) hu (by decide)) ha
  show G.R i ≤ if i = b ∧ b < w.heap.size then l.length * 2 else G.R i
  split
  · rename_i e
    obtain ⟨q2, q3, _⟩ := hst b _ hs
    rw [e.1, q3]; exact Nat.zero_le _
  · exact Nat.le_refl _
theorem arr_nil2 {w : World} {R : Nat → Nat} {b off sz : Nat} {v : Value} (hv : VR w R (.arr b off 0 0) v) : VR w R (.sl false sz 0 []) v := by
  rcases VR.inv_arr' hv with e | ⟨_, _, e⟩
  · rw [e]; exact .sle sz _ _
  · rw [e]; exact .slnil false sz
theorem index_nil_spn {b off : Nat} {r : Int} {s : Store} {Q : List AV → Store → Prop} (h : slices_IndexFuncapi_Span_api_Span [] = some r) (hq : Q [.int .i64 r] s) :
    FN Go.Proofs.Try.prog 126 [.arr b off 0 0, .fn 111 [] []] s Q :=
  FN.args (FE.app (slices_IndexFuncapi_Span_api_Span_fe h) hq) fun G w vs _ ha => ⟨ha.1, fun j a v hj hv => by
    match j, hj with
    | 0, hj => cases hj; exact arr_nil2 (ha.2 0 _ v rfl hv)
    | 1, hj => cases hj; exact ha.2 1 _ v rfl hv⟩
theorem set_self {s : Store} {b : Nat} {o : SO} (h : s b = some o) : s.set b o = s := by
  funext c
  unfold Store.set
  split
  · rename_i e; subst e; rw [h]
  · rfl
def spE (x : api_Span) : Bool := (decide (x.From < 0)) || (decide (x.To ≤ x.From))
theorem spE_fe (x : api_Span) (s : Store) : FE Go.Proofs.Try.prog 111 [.agg [.int .i64 x.From, .int .i64 x.To]] s [.bool (spE x)] s := span_empty_fe rfl
theorem delSpn_arr {b cap i : Nat} {l : List api_Span} {sp : List AV} {s : Store} {Q : List AV → Store → Prop} (hs : s b = some (.cells (flat l ++ sp))) (hl : (flat l ++ sp).length = cap * 2) (hn : l.length ≤ cap) (hbig : (l.length : Int) ≤ 9223372036854775807)
    (hidx : slices_IndexFuncapi_Span_api_Span l = some (i : Int)) (hi : i < l.length) (hk : (l.take (i + 1)).filter (fun x => !spE x) = l.take i)
    (hq : ∀ sp', (flat (l.filter (fun x => !spE x)) ++ sp').length = cap * 2 → Q [.arr b 0 (l.filter (fun x => !spE x)).length cap] (s.set b (.cells (flat (l.filter (fun x => !spE x)) ++ sp')))) :
    FN Go.Proofs.Try.prog 109 [.arr b 0 l.length cap, .fn 111 [] []] s Q := by
  refine FN.of (draw_ok mix) is_DelSpn rfl (Nat.le_of_ble_eq_true rfl) ?_
  rw [ir_DelSpn, res_DelSpn]
  simp -implicitDefEqProofs only [go_sem, start, startE, resVs, resV, resC, allV, retK, Nat.reduceBEq, Nat.reduceAdd, Nat.reduceMul, Nat.reduceLeDiff, Nat.reduceEqDiff, Nat.reduceBNe, Nat.ble_eq, UInt8.reduceToNat]
  refine index_row_spn hs hn hidx ?_
  simp -implicitDefEqProofs only [go_sem, start, startE, resVs, resV, resC, allV, retK, Nat.reduceBEq, Nat.reduceAdd, Nat.reduceMul, Nat.reduceLeDiff, Nat.reduceEqDiff, Nat.reduceBNe, Nat.ble_eq, UInt8.reduceToNat]
  have e1 : (((i : Int)) == -1) = false := by rw [beq_eq_false_iff_ne]; omega
  rw [e1]
  refine ⟨fun h => (by cases h), fun _ => ?_⟩
  have w1 : w64 ((i : Int) + 1) = ((i + 1 : Nat) : Int) := by rw [w64_id (by omega) (by omega)]; omega
  rw [w1]
  refine ⟨fun τ => ∃ (a j : Nat) (l' : List api_Span), τ = ⟨[(0, .arr b 0 l.length cap), (1, .fn 111 [] []), (5, .int .i64 (a : Int)), (6, .int .i64 (j : Int))], [], s.set b (.cells (flat l' ++ sp))⟩ ∧ l'.length = l.length ∧ a < j ∧ j ≤ l.length ∧ l'.take a = (l.take j).filter (fun x => !spE x) ∧ l'.drop j = l.drop j ∧ a = ((l.take j).filter (fun x => !spE x)).length,
    fun τ => match look τ.e 6 with | .int _ j => l.length - j.toNat | _ => 0, ?_, ?_⟩
  · refine ⟨i, i + 1, l, ?_, rfl, by omega, by omega, hk.symm, rfl, ?_⟩
    · rw [set_self hs]; rfl
    · rw [hk]; simp; omega
  · rintro τ ⟨a, j, l', rfl, h1, h2, h3, h4, h5, h6⟩
    have hlen : (flat l' ++ sp).length = cap * 2 := by rw [← hl, List.length_append, List.length_append, flat_len, flat_len, h1]
    simp -implicitDefEqProofs only [go_sem, start, startE, resVs, resV, resC, allV, retK, Nat.reduceBEq, Nat.reduceAdd, Nat.reduceMul, Nat.reduceLeDiff, Nat.reduceEqDiff, Nat.reduceBNe, Nat.ble_eq, UInt8.reduceToNat, set_at]
    refine ⟨fun hj => ⟨⟨by omega, of_decide_eq_true hj⟩, ?_⟩, fun hj => ⟨by omega, ?_⟩⟩
    · have hj := of_decide_eq_true hj
      have hj' : j < l.length := by omega
      have hx : ∃ x, l.drop j = x :: l.drop (j + 1) ∧ (l.take (j + 1)).filter (fun x => !spE x) = (l.take j).filter (fun x => !spE x) ++ (if spE x then [] else [x]) := by
        refine ⟨l[j], List.drop_eq_getElem_cons hj', ?_⟩
        rw [List.take_succ_eq_append_getElem hj', List.filter_append]
        cases hg : spE l[j] <;> simp [hg]
      obtain ⟨x, hx1, hx2⟩ := hx
      have hd : decide (j * 2 + 2 ≤ (flat l').length + sp.length) = true := decide_eq_true (by rw [flat_len, h1]; show j * 2 + 2 ≤ l.length * 2 + _; omega)
      have hv : views (AB.sub (flat l' ++ sp) (j * 2) 2) = [.int .i64 x.From, .int .i64 x.To] := by
        have := row_sub l' sp 2 j 1 rfl (by omega)
        rw [Nat.one_mul] at this
        rw [this, h5, hx1]; rfl
      rw [hd, hv]
      simp -implicitDefEqProofs only [go_sem, start, startE, resVs, resV, resC, allV, retK, Nat.reduceBEq, Nat.reduceAdd, Nat.reduceMul, Nat.reduceLeDiff, Nat.reduceEqDiff, Nat.reduceBNe, Nat.ble_eq, UInt8.reduceToNat]
      refine ⟨(by kernel_rfl), FE.app (spE_fe x _) ?_⟩
      have w2 : w64 ((j : Int) + 1) = ((j + 1 : Nat) : Int) := by rw [w64_id (by omega) (by omega)]; omega
      have w3 : w64 ((a : Int) + 1) = ((a + 1 : Nat) : Int) := by rw [w64_id (by omega) (by omega)]; omega
      simp -implicitDefEqProofs only [go_sem, start, startE, resVs, resV, resC, allV, retK, Nat.reduceBEq, Nat.reduceAdd, Nat.reduceMul, Nat.reduceLeDiff, Nat.reduceEqDiff, Nat.reduceBNe, Nat.ble_eq, UInt8.reduceToNat, set_at, w2, w3]
      have st := row_set l' [x] sp 2 a rfl (by simp; omega)
      have d1 : l'.drop (j + 1) = l.drop (j + 1) := by rw [← List.drop_drop, ← List.drop_drop, h5]
      have ht : (l'.take a ++ [x]).length = a + 1 := by simp; omega
      refine ⟨fun hg => ⟨⟨by omega, by omega⟩, by rw [flat_len, h1]; show a * 2 + 2 ≤ l.length * 2 + _; omega, ⟨a + 1, j + 1, l'.take a ++ [x] ++ l'.drop (a + 1), ?_, ?_, by omega, by omega, ?_, ?_, ?_⟩, by omega⟩,
        fun hg => ⟨⟨a, j + 1, l', rfl, h1, by omega, by omega, ?_, d1, ?_⟩, by omega⟩⟩
      · rw [show setAt (flat l' ++ sp) (a * 2) [AV.int .i64 x.From, AV.int .i64 x.To] = _ from st]; rfl
      · rw [List.length_append, ht, List.length_drop]; omega
      · rw [List.take_append_of_le_length (by omega), List.take_of_length_le (by omega), hx2, h4]
        have : spE x = false := by cases h : spE x <;> simp_all
        simp [this]
      · rw [List.drop_append, List.drop_of_length_le (by omega), List.nil_append, ht, List.drop_drop, show a + 1 + (j + 1 - (a + 1)) = j + 1 by omega, d1]
      · have : spE x = false := by cases h : spE x <;> simp_all
        rw [hx2, List.length_append, ← h6, this]; rfl
      · have : spE x = true := by cases h : spE x <;> simp_all
        rw [h4, hx2, this]; simp
      · have : spE x = true := by cases h : spE x <;> simp_all
        rw [hx2, this, h6]; simp
    · have hj := of_decide_eq_false hj
      obtain rfl : j = l.length := by omega
      rw [arrOff_lt (by omega)]
      have hsp : (flat l' ++ sp).length = cap * 2 := by omega
      refine clearAW_in rfl set_at (by
        rw [hsp]
        show 0 + a * 2 + (l.length - a) * 2 ≤ cap * 2
        omega) ?_
      have hz : (List.replicate (l.length - a) [AV.int .i64 0, AV.int .i64 0]).flatten = flat (List.replicate (l.length - a) (api_Span.mk 0 0)) := by
        rw [flat_rep]; rfl
      have st := row_set l' (List.replicate (l.length - a) (api_Span.mk 0 0)) sp 2 a rfl (by simp; omega)
      have e3 : l'.drop (a + (List.replicate (l.length - a) (api_Span.mk 0 0)).length) = [] := by
        rw [List.drop_eq_nil_iff]; simp; omega
      rw [e3, List.append_nil, h4, List.take_length, flat_append, List.append_assoc] at st
      rw [List.take_length] at h6
      rw [Nat.zero_add, hz, st]
      generalize hF : l.filter (fun x => !spE x) = F at hq h6
      have hq' := hq (flat (List.replicate (l.length - a) (api_Span.mk 0 0)) ++ sp) (by
        rw [List.length_append, List.length_append, flat_len, flat_len, List.length_replicate, ← h6]
        rw [List.length_append, flat_len, h1] at hsp
        have q1 : Enc.w api_Span = 2 := rfl
        rw [q1] at hsp ⊢
        omega)
      rw [← h6] at hq'
      generalize flat (List.replicate (l.length - a) (api_Span.mk 0 0)) ++ sp = sp' at hq'
      simp -implicitDefEqProofs only [go_sem, start, startE, resVs, resV, resC, allV, retK, Nat.reduceBEq, Nat.reduceAdd, Nat.reduceMul, Nat.reduceLeDiff, Nat.reduceEqDiff, Nat.reduceBNe, Nat.ble_eq, UInt8.reduceToNat]
      exact ⟨⟨by omega, by omega, by omega⟩, hq'⟩
theorem delSpn_none {b off n cap : Nat} {s : Store} {Q : List AV → Store → Prop} (hx : ∀ Q : List AV → Store → Prop, Q [.int .i64 (-1)] s → FN Go.Proofs.Try.prog 126 [.arr b off n cap, .fn 111 [] []] s Q) (hq : Q [.arr b off n cap] s) :
    FN Go.Proofs.Try.prog 109 [.arr b off n cap, .fn 111 [] []] s Q := by
  refine FN.of (draw_ok mix) is_DelSpn rfl (Nat.le_of_ble_eq_true rfl) ?_
  rw [ir_DelSpn, res_DelSpn]
  simp -implicitDefEqProofs only [go_sem, start, startE, resVs, resV, resC, allV, retK, Nat.reduceBEq, Nat.reduceAdd, Nat.reduceMul, Nat.reduceLeDiff, Nat.reduceEqDiff, Nat.reduceBNe, Nat.ble_eq, UInt8.reduceToNat]
  refine hx _ ?_
  simp -implicitDefEqProofs only [go_sem, start, startE, resVs, resV, resC, allV, retK, Nat.reduceBEq, Nat.reduceAdd, Nat.reduceMul, Nat.reduceLeDiff, Nat.reduceEqDiff, Nat.reduceBNe, Nat.ble_eq, UInt8.reduceToNat]
  exact ⟨fun _ => hq, fun h => (by cases h)⟩
theorem index_spn (l : List api_Span) (hb : l.length < 4611686018427387904) :
    slices_IndexFuncapi_Span_api_Span l = some (match l.findIdx? spE with | some i => (i : Int) | none => -1) := by
  unfold slices_IndexFuncapi_Span_api_Span
  have step : ∀ k (hk : k < l.length), span_empty (ix l (k : Int)) = some (spE l[k]) := fun k hk => by
    have e : ix l (k : Int) = l[k] := ix_at (i := (k : Int)) hk
    rw [e]; rfl
  cases h : l.findIdx? spE with
  | none =>
    rw [List.findIdx?_eq_none_iff] at h
    refine jnS_of (z := .inl ()) (bndS_of (z := .inl ()) (iter_cnt l.length hb (fun k hk => ?_) ?_) rfl) rfl
    · refine if_of (decide_eq_true (by omega)) (need_of ⟨by omega, by omega⟩ (bnd_of (step k hk) ?_))
      rw [h _ (List.getElem_mem hk)]; rfl
    · exact if_not (by simp) rfl
  | some i =>
    rw [List.findIdx?_eq_some_iff_getElem] at h
    obtain ⟨hi, h1, h2⟩ := h
    refine jnS_of (z := .inr (i : Int)) (bndS_of (z := .inr (i : Int)) (iter_cnt i (by omega) (fun k hk => ?_) ?_) rfl) rfl
    · refine if_of (decide_eq_true (by omega)) (need_of ⟨by omega, by omega⟩ (bnd_of (step k (by omega)) ?_))
      have := h2 k hk
      rw [Bool.not_eq_true] at this
      rw [this]; rfl
    · refine if_of (decide_eq_true (by omega)) (need_of ⟨by omega, by omega⟩ (bnd_of (step i hi) ?_))
      rw [h1]; rfl
/-- Those that are not empty. -/
def full (l : List api_Span) : List api_Span := l.filter fun x => !spE x
/-- The row behind: in its place, or no row at all. -/
theorem delSpn_row {l : List api_Span} {s : Store} {Q : List AV → Store → Prop} (hb : l.length * 16 ≤ room) {b cap : Nat} {sp : List AV} (hs : s b = some (.cells (flat l ++ sp))) (hn : l.length ≤ cap) (hl : (flat l ++ sp).length = cap * 2)
    (hq : ∀ sp', (flat (full l) ++ sp').length = cap * 2 → Q [.arr b 0 (full l).length cap] (s.set b (.cells (flat (full l) ++ sp')))) : FN Go.Proofs.Try.prog 109 [.arr b 0 l.length cap, .fn 111 [] []] s Q := by
  have hb' : l.length < 4611686018427387904 := by unfold room at hb; omega
  have hidx := index_spn l hb'
  cases h : l.findIdx? spE with
  | none =>
    rw [h] at hidx
    have hall : full l = l := by
      rw [List.findIdx?_eq_none_iff] at h
      exact List.filter_eq_self.2 fun x hx => by simp [h x hx]
    rw [hall] at hq
    refine delSpn_none (fun Q' hq' => index_row_spn hs hn hidx hq') ?_
    have := hq sp hl
    rwa [set_self hs] at this
  | some i =>
    rw [h] at hidx
    rw [List.findIdx?_eq_some_iff_getElem] at h
    obtain ⟨hi, h1, h2⟩ := h
    refine delSpn_arr hs hl hn (by omega) hidx hi ?_ hq
    rw [List.take_succ_eq_append_getElem hi, List.filter_append]
    have e1 : (l.take i).filter (fun x => !spE x) = l.take i := by
      refine List.filter_eq_self.2 fun x hx => ?_
      obtain ⟨k, hk, rfl⟩ := List.getElem_of_mem hx
      rw [List.length_take] at hk
      rw [List.getElem_take]
      have := h2 k (by omega)
      simpa using this
    rw [e1]
    simp [h1]
theorem delSpn_nil {b off : Nat} {s : Store} {Q : List AV → Store → Prop} (hq : Q [.arr b off 0 0] s) : FN Go.Proofs.Try.prog 109 [.arr b off 0 0, .fn 111 [] []] s Q :=
  delSpn_none (fun Q' hq' => index_nil_spn (r := -1) (index_spn [] (by decide)) hq') hq

end Go.AB
end

section
namespace Go.AB
open Go Go.Sort Go.Proofs Go.Shelf

/-- What only lays blocks. -/
theorem grown_of_pres {G G' : Gh} {w w' : World} (hn : ∀ b, G.O b = .none) (h : Pres G w G' w') : ∃ q os, w' = grow (w.drewN q) os := by
  refine ⟨w'.drawn - w.drawn, w'.heap.extract w.heap.size w'.heap.size, ?_⟩
  have hheap : w'.heap = w.heap ++ w'.heap.extract w.heap.size w'.heap.size := by
    apply Array.ext_getElem?
    intro i
    rcases Nat.lt_or_ge i w.heap.size with hi | hi
    · rw [Array.getElem?_append_left hi]; exact h.frame i hi (.inr (hn i))
    · rw [Array.getElem?_append_right hi, Array.getElem?_extract]
      have e : w.heap.size + (i - w.heap.size) = i := by omega
      rw [e]
      split
      · rfl
      · rename_i h2
        rw [Array.getElem?_eq_none (by omega)]
  have hd := h.drawn
  have ho := h.os
  have ht := h.tape
  have hp := h.output
  generalize w'.heap.extract w.heap.size w'.heap.size = os at hheap
  obtain ⟨hp', tp, dr, o, ou⟩ := w'
  simp only at hheap hd ho ht hp
  subst hheap; subst ho; subst ht; subst hp
  show _ = { w.drewN (dr - w.drawn) with heap := w.heap ++ os }
  unfold World.drewN
  have : w.drawn + (dr - w.drawn) = dr := by omega
  rw [this]

section
variable {P : Program} {f g : FuncId} {α : Type} [Enc α] [Inhabited α] {enc : α → List Value} {k : Nat} {cf : α → α → Int}
theorem lays_of_FE (hfe : ∀ x y : α, FE P g [.agg (Enc.cells x), .agg (Enc.cells y)] noStore [.int .i64 (cf x y)] noStore) (henc : ∀ (w : World) (R : Nat → Nat) (x : α), VR w R (.agg (Enc.cells x)) (.agg (enc x).toArray)) (blk off size : Nat) (w : World) :
    CmpLays P g #[] enc k cf blk off size w := by
  intro m os dk hs x y
  have h := hfe x y ⟨fun _ => 0, fun _ => .none⟩ (sortWorldK enc k w blk off m dk os) #[.agg (enc x).toArray, .agg (enc y).toArray] ⟨fun _ _ => rfl, fun _ _ => rfl⟩ (fun b => .inl rfl) (fun b o h => by cases h)
    ⟨rfl, fun j a v hj hv => by
      match j, hj, hv with
      | 0, hj, hv => cases hj; cases hv; exact henc _ _ x
      | 1, hj, hv => cases hj; cases hv; exact henc _ _ y⟩
  rw [Array.append_empty]
  refine h.mono ?_
  rintro e w' ⟨v, rs, s', G', rfl, ⟨rfl, rfl⟩, _, _, hr, hp⟩
  have hv : v = .int .i64 (cf x y) := VR.inv_int hr.1
  subst hv
  exact ⟨rfl, grown_of_pres (fun _ => rfl) hp⟩

omit [Inhabited α] in
theorem flat_cell (l : List α) (sp : List AV) {i r : Nat} (hi : i < l.length) (hr : r < Enc.w α) : (flat l ++ sp)[i * Enc.w α + r]? = (Enc.cells l[i])[r]? := by
  have hlt : i * Enc.w α + r < (flat l).length := by
    rw [flat_len]
    calc i * Enc.w α + r < (i + 1) * Enc.w α := by rw [Nat.add_mul]; omega
      _ ≤ l.length * Enc.w α := Nat.mul_le_mul_right _ hi
  rw [List.getElem?_append_left hlt]
  have h := flat_sub l (Enc.w α) i 1 rfl
  rw [Nat.one_mul, List.drop_eq_getElem_cons hi] at h
  have h2 : (AB.sub (flat l) (i * Enc.w α) (Enc.w α))[r]? = (Enc.cells l[i])[r]? := by
    rw [h]
    show (flat [l[i]])[r]? = _
    unfold flat
    simp
  rw [sub_get, if_pos hr] at h2
  exact h2

theorem sort_fn (hk : k = Enc.w α) (hlen : ∀ x, (enc x).length = k)
    (hdec : ∀ (w : World) (R : Nat → Nat) (x : α) (vs : List Value), vs.length = k → (∀ (j : Nat) (c : AV) (v : Value), (Enc.cells x)[j]? = some c → vs[j]? = some v → VR w R c v) → vs = enc x)
    (hvr : ∀ (w : World) (R : Nat → Nat) (x : α) (j : Nat) (c : AV) (v : Value), (Enc.cells x)[j]? = some c → (enc x)[j]? = some v → VR w R c v)
    (hcon : ∀ (blk off cap : Nat) (d : Array α) (w : World), HoldsK enc k w blk off d → blk < w.heap.size → d.size < 4611686018427387904 → Calls P f #[.slice (some ⟨blk, off, none⟩) d.size cap, .func (.func g) #[] #[]] w fun e w' =>
      e = .returned (.tuple #[]) ∧ ∃ d' n os, PermIn 0 d.size d d' ∧ SortedIn (ltOf cf) 0 d.size d' ∧ w' = sortWorldK enc k w blk off n d' os)
    {b cap : Nat} {l : List α} {sp : List AV} {s : Store} {Q : List AV → Store → Prop} (hs : s b = some (.cells (flat l ++ sp))) (hc : 0 < cap) (hb : l.length < 4611686018427387904)
    (hq : ∀ l' : List α, l'.Perm l → l'.Pairwise (fun x y => ltOf cf y x = false) → Q [] (s.set b (.cells (flat l' ++ sp)))) : FN P f [.arr b 0 l.length cap, .fn g [] []] s Q := by
  subst hk
  intro G w vs hg ho hst ha
  have hvs : vs = #[.slice (some ⟨b, 0, none⟩) l.length cap, .func (.func g) #[] #[]] := by
    obtain ⟨h1, h2⟩ := ha
    have h1' : vs.size = 2 := h1
    apply Array.ext (by simpa using h1')
    intro i hi1 hi2
    have hi : i < 2 := by omega
    match i, hi with
    | 0, _ => exact VR.inv_arr (h2 0 _ _ rfl (Array.getElem?_eq_getElem (by omega))) hc
    | 1, _ =>
      obtain ⟨vf, vc, e, s1, _, s2, _⟩ := VR.inv_fn (h2 1 _ _ rfl (Array.getElem?_eq_getElem (by omega)))
      rw [e]
      rw [Array.eq_empty_of_size_eq_zero s1, Array.eq_empty_of_size_eq_zero s2]
      rfl
  subst hvs
  obtain ⟨q2, q3, c, t, q4, q5, q6⟩ := hst b _ hs
  have hbl : b < w.heap.size := (Array.getElem?_eq_some_iff.1 q4).1
  have hw0 : 0 < Enc.w α := Enc.pos
  have hcs : c.size = l.length * Enc.w α + sp.length := by rw [q5.1, List.length_append, flat_len]
  have hcell : ∀ i (hi : i < l.length), (c.toList.drop (i * Enc.w α)).take (Enc.w α) = enc l[i] := fun i hi => by
    have hle : i * Enc.w α + Enc.w α ≤ l.length * Enc.w α := by
      rw [← Nat.succ_mul]; exact Nat.mul_le_mul_right _ hi
    refine hdec w G.R l[i] _ (by simp; omega) fun j x v hx hv => ?_
    have hj : j < Enc.w α := by
      have := (List.getElem?_eq_some_iff.1 hv).1
      simp at this; omega
    rw [List.getElem?_take, if_pos hj, List.getElem?_drop] at hv
    exact (q5.2 _ x v (by rw [flat_cell l sp hi hj]; exact hx) (by simpa using hv)).1
  have hget : ∀ (l2 : List α) (i r : Nat) (hi : i < l2.length), r < Enc.w α → (flatK enc (Enc.w α) l2.toArray)[i * Enc.w α + r]! = (enc l2[i])[r]! := fun l2 i r hi hr => by
    rw [get_flatK _ _ _ _ (by
      calc i * Enc.w α + r < (i + 1) * Enc.w α := by rw [Nat.add_mul]; omega
        _ ≤ l2.toArray.size * Enc.w α := Nat.mul_le_mul_right _ (by rw [List.size_toArray]; exact hi))]
    have e1 : (i * Enc.w α + r) / Enc.w α = i := by
      rw [Nat.mul_comm, Nat.mul_add_div hw0, Nat.div_eq_of_lt hr, Nat.add_zero]
    have e2 : (i * Enc.w α + r) % Enc.w α = r := by
      rw [Nat.mul_comm, Nat.mul_add_mod, Nat.mod_eq_of_lt hr]
    rw [e1, e2]
    simp [hi]
  have hH : HoldsK enc (Enc.w α) w b 0 l.toArray := by
    intro j hj
    rw [size_flatK] at hj
    have hj : j < l.length * Enc.w α := by simpa using hj
    have hi : j / Enc.w α < l.length := by
      rw [Nat.div_lt_iff_lt_mul hw0]; exact hj
    have hr : j % Enc.w α < Enc.w α := Nat.mod_lt _ hw0
    have ej : j / Enc.w α * Enc.w α + j % Enc.w α = j := by
      have := Nat.div_add_mod j (Enc.w α)
      rw [Nat.mul_comm] at this; exact this
    refine ⟨?_, ?_⟩
    · rw [Nat.zero_add, cell_of_row w q4]
      have h1 := hcell _ hi
      have h2 : ((c.toList.drop (j / Enc.w α * Enc.w α)).take (Enc.w α))[j % Enc.w α]? = c[j]? := by
        rw [List.getElem?_take, if_pos hr, List.getElem?_drop, ej]; simp
      rw [← h2, h1]
      have h3 := hget l _ _ hi hr
      rw [ej] at h3
      show _ = some ((flatK enc (Enc.w α) l.toArray)[j]!)
      rw [h3]
      have : j % Enc.w α < (enc l[j / Enc.w α]).length := by rw [hlen]; exact hr
      simp [this]
    · unfold World.frozen?
      simp [q4]
  have hcall := hcon b 0 cap l.toArray w hH hbl (by simpa using hb)
  rw [List.size_toArray] at hcall
  refine hcall.mono ?_
  rintro e w' ⟨rfl, d', m, os, hp, hsd, rfl⟩
  obtain ⟨p1, _, p3⟩ := hp
  have p1 : d'.size = l.length := by simpa using p1
  have hperm : d'.toList.Perm l := by
    have e1 : d'.extract 0 l.toArray.size = d' := by rw [List.size_toArray, ← p1]; exact Array.extract_size
    have e2 : l.toArray.extract 0 l.toArray.size = l.toArray := Array.extract_size
    have : (d'.extract 0 l.toArray.size).toList.Perm (l.toArray.extract 0 l.toArray.size).toList := by simpa using p3
    rw [e1, e2] at this
    simpa using this
  obtain ⟨l', rfl⟩ : ∃ l' : List α, d' = l'.toArray := ⟨d'.toList, by simp⟩
  have hl' : l'.length = l.length := by simpa using p1
  have hperm : l'.Perm l := by simpa using hperm
  have hsort : l'.Pairwise (fun x y => ltOf cf y x = false) := by
    rw [List.pairwise_iff_getElem]
    intro i j hi hj hij
    have := hsd i j (Nat.zero_le _) hij (by omega)
    simpa [hi, hj] using this
  -- the world behind
  generalize hF : flatK enc (Enc.w α) l'.toArray = F
  have hFs : F.size = l.length * Enc.w α := by rw [← hF, size_flatK]; simp [hl']
  generalize hw' : sortWorldK enc (Enc.w α) w b 0 m l'.toArray os = w'
  have ew : w' = grow (mapBlock (Go.Sort.ahead w m) b (putCells id 0 F)) os := by rw [← hw', ← hF]; rfl
  have hsz : w.heap.size ≤ w'.heap.size := by rw [ew]; simp [grow, mapBlock, Go.Sort.ahead]
  have hoth : ∀ i, i < w.heap.size → i ≠ b → w'.heap[i]? = w.heap[i]? := fun i hi hib => by
    rw [ew, heap_grow_old _ _ (by simpa [mapBlock, Go.Sort.ahead] using hi)]
    unfold mapBlock
    show ((Go.Sort.ahead w m).heap.modify b _)[i]? = _
    rw [Array.getElem?_modify, if_neg (fun e => hib e.symm)]
    rfl
  have hnew : w'.heap[b]? = some (.cells (putCells id 0 F c) t (0, 0)) := by
    rw [ew, heap_grow_old _ _ (by simpa [mapBlock, Go.Sort.ahead] using hbl)]
    unfold mapBlock
    show ((Go.Sort.ahead w m).heap.modify b _)[b]? = _
    rw [Array.getElem?_modify, if_pos rfl]
    show Option.map _ (w.heap[b]?) = _
    rw [q4]; rfl
  have hpres : Pres G w G w' := by
    refine ⟨by rw [ew]; rfl, by rw [ew]; rfl, by rw [ew]; rfl, by rw [ew]; exact Nat.le_add_right _ _, hsz, fun _ _ => Nat.le_refl _, fun i j hi hj => ?_, fun i hi hof => ?_, fun _ _ h => ⟨h, rfl⟩, fun _ _ h => ⟨h, rfl⟩⟩
    · have hib : i ≠ b := fun e => by subst e; rw [q3] at hj; omega
      exact World.cell?_of_block (hoth i hi hib)
    · exact hoth i hi fun e => by subst e; rw [q2] at hof; rcases hof with h | h <;> cases h
  have hg' : GoodW G w' := ⟨fun i hi => hg.newO i (Nat.le_trans hsz hi), fun i hi => hg.newR i (Nat.le_trans hsz hi)⟩
  have hlt : ∀ i, G.O i ≠ .none → i < w.heap.size := fun i hi => hg.lt hi
  refine ⟨_, [], _, G, rfl, hq l' hperm hsort, hg', fun i o hi => ?_, ⟨#[], rfl, rfl, fun j x y hx => by simp at hx⟩, hpres⟩
  unfold Store.set at hi
  by_cases hib : i = b
  · rw [if_pos hib] at hi; injection hi with hi; subst hi; subst hib
    refine ⟨q2, q3, _, t, hnew, ⟨?_, fun j x y hx hy => ?_⟩, ?_⟩
    · unfold putCells
      rw [Array.size_mapIdx, hcs, List.length_append, flat_len, hl']
    · unfold putCells at hy
      rw [Array.getElem?_mapIdx] at hy
      by_cases hj : j < l.length * Enc.w α
      · have hjc : j < c.size := by omega
        have hi' : j / Enc.w α < l'.length := by rw [Nat.div_lt_iff_lt_mul hw0, hl']; exact hj
        have hr : j % Enc.w α < Enc.w α := Nat.mod_lt _ hw0
        have ej : j / Enc.w α * Enc.w α + j % Enc.w α = j := by
          have := Nat.div_add_mod j (Enc.w α)
          rw [Nat.mul_comm] at this; exact this
        rw [Array.getElem?_eq_getElem hjc] at hy
        simp only [Option.map_some, Nat.zero_le, Nat.zero_add, hFs, hj, and_self, if_true, Nat.sub_zero, id] at hy
        have hx2 : (Enc.cells l'[j / Enc.w α])[j % Enc.w α]? = some x := by
          rw [← flat_cell l' sp hi' hr, ej]; exact hx
        have hy2 : (enc l'[j / Enc.w α])[j % Enc.w α]? = some y := by
          have h3 := hget l' _ _ hi' hr
          rw [ej, hF] at h3
          rw [h3] at hy
          have : j % Enc.w α < (enc l'[j / Enc.w α]).length := by rw [hlen]; exact hr
          simp [this] at hy ⊢
          exact hy
        refine ⟨hvr w' G.R _ _ _ _ hx2 hy2, ?_⟩
        have hxm : x ∈ flat l' := by
          have : j < (flat l').length := by rw [flat_len, hl']; exact hj
          rw [List.getElem?_append_left this] at hx
          exact List.mem_of_getElem? hx
        have hv := flat_views l'
        rw [← hv] at hxm
        obtain ⟨x0, _, rfl⟩ := List.mem_map.1 hxm
        exact OwnR.view ..
      · have hnj : ¬ (0 ≤ j ∧ j < 0 + F.size) := fun h => hj (by have := h.2; omega)
        have hy' : c[j]? = some y := by
          cases hcj : c[j]? with
          | none => rw [hcj] at hy; cases hy
          | some u => rw [hcj] at hy; simp only [Option.map_some, if_neg hnj] at hy; exact hy
        have hx' : (flat l ++ sp)[j]? = some x := by
          rw [List.getElem?_append_right (by rw [flat_len, hl']; omega), flat_len, hl'] at hx
          rw [List.getElem?_append_right (by rw [flat_len]; omega), flat_len]
          exact hx
        obtain ⟨h1, h2⟩ := q5.2 j x y hx' hy'
        exact ⟨hpres.vr hg h1, h2.mono fun i hi => ⟨hi, rfl, hoth i (hlt i (by rw [hi]; simp)) (fun e => by subst e; rw [q2] at hi; cases hi)⟩⟩
    · intro x hx
      rcases List.mem_append.1 hx with hx | hx
      · refine q6 x (List.mem_append_left _ ?_)
        unfold flat at hx ⊢
        rw [List.mem_flatten] at hx ⊢
        obtain ⟨cs, h1, h2⟩ := hx
        obtain ⟨a, h3, rfl⟩ := List.mem_map.1 h1
        exact ⟨_, List.mem_map.2 ⟨a, hperm.mem_iff.1 h3, rfl⟩, h2⟩
      · exact q6 x (List.mem_append_right _ hx)
  · rw [if_neg hib] at hi
    obtain ⟨r1, r2, r3⟩ := hst i o hi
    refine ⟨r1, r2, ?_⟩
    have hbk := hoth i (hlt i (by rw [r1]; simp)) hib
    cases o with
    | cells cs =>
      obtain ⟨c0, t0, r4, r5, r6⟩ := r3
      exact ⟨c0, t0, hbk.trans r4, r5.mono (fun _ _ hv => hpres.vr hg hv) (fun b' j hb' => ⟨hb', rfl, hoth b' (hlt b' (by rw [hb']; simp)) (fun e => by subst e; rw [q2] at hb'; cases hb')⟩), r6⟩
    | map es =>
      obtain ⟨ents, clock, r4, r5, r6⟩ := r3
      exact ⟨ents, clock, hbk.trans r4, r5, fun j x y hx hy => ⟨hpres.vr hg (r6 j x y hx hy).1, hpres.vr hg (r6 j x y hx hy).2⟩⟩
end
end Go.AB
end

section
namespace Go.Proofs
open Go.Shelf
def Try.sortSpn_ren : Go.Shelf.Ren := ⟨fun | 6 => 112 | 15 => 128 | 14 => 127 | 28 => 144 | 29 => 145 | 20 => 136 | 21 => 137 | 22 => 138 | 23 => 139 | 24 => 140 | 25 => 141 | 26 => 142 | 27 => 143 | 46 => 147 | 47 => 148 | 48 => 149 | 49 => 150 | 50 => 151 | 57 => 153 | n => n, fun | 22 => 70 | 24 => 80 | 25 => 163 | 3 => 3 | 39 => 175 | 0 => 0 | 53 => 192 | 55 => 194 | 4 => 4 | 46 => 186 | 45 => 185 | 50 => 55 | 5 => 5 | 9 => 9 | 66 => 196 | 70 => 200 | 76 => 203 | 77 => 179 | n => n, fun | n => n⟩
theorem Try.sortSpn : Go.Proofs.SlLaysF0.n6 Try.prog Try.sortSpn_ren := {
  mixed := by kernel_rfl
  f6 := ⟨Try.f112.name, by decide, Try.func112.trans (congrArg some (by kernel_rfl))⟩
  f14 := ⟨Try.f127.name, by decide, Try.func127.trans (congrArg some (by kernel_rfl))⟩
  f15 := Try.func128.trans (congrArg some (by kernel_rfl))
  f20 := ⟨Try.f136.name, by decide, Try.func136.trans (congrArg some (by kernel_rfl))⟩
  f21 := ⟨Try.f137.name, by decide, Try.func137.trans (congrArg some (by kernel_rfl))⟩
  f22 := ⟨Try.f138.name, by decide, Try.func138.trans (congrArg some (by kernel_rfl))⟩
  f23 := ⟨Try.f139.name, by decide, Try.func139.trans (congrArg some (by kernel_rfl))⟩
  f24 := ⟨Try.f140.name, by decide, Try.func140.trans (congrArg some (by kernel_rfl))⟩
  f25 := ⟨Try.f141.name, by decide, Try.func141.trans (congrArg some (by kernel_rfl))⟩
  f26 := ⟨Try.f142.name, by decide, Try.func142.trans (congrArg some (by kernel_rfl))⟩
  f27 := ⟨Try.f143.name, by decide, Try.func143.trans (congrArg some (by kernel_rfl))⟩
  f28 := Try.func144.trans (congrArg some (by kernel_rfl))
  f29 := Try.func145.trans (congrArg some (by kernel_rfl))
  f46 := ⟨Try.f147.name, by decide, Try.func147.trans (congrArg some (by kernel_rfl))⟩
  f47 := Try.func148.trans (congrArg some (by kernel_rfl))
  f48 := Try.func149.trans (congrArg some (by kernel_rfl))
  f49 := ⟨Try.f150.name, by decide, Try.func150.trans (congrArg some (by kernel_rfl))⟩
  f50 := ⟨Try.f151.name, by decide, Try.func151.trans (congrArg some (by kernel_rfl))⟩
  f57 := ⟨Try.f153.name, by decide, Try.func153.trans (congrArg some (by kernel_rfl))⟩
  t0 := Try.underlying0
  a0 := Try.isAgg0
  z0 := Try.sizeOf0
  v0 := Try.zeroValue0
  t3 := Try.underlying3
  a3 := Try.isAgg3
  z3 := Try.sizeOf3
  v3 := Try.zeroValue3
  t4 := Try.underlying4
  a4 := Try.isAgg4
  z4 := Try.sizeOf4
  v4 := Try.zeroValue4
  t5 := Try.underlying5
  a5 := Try.isAgg5
  z5 := Try.sizeOf5
  v5 := Try.zeroValue5
  t9 := Try.underlying9
  a9 := Try.isAgg9
  z9 := Try.sizeOf9
  v9 := Try.zeroValue9
  t22 := Try.underlying70
  a22 := Try.isAgg70
  z22 := Try.sizeOf70
  v22 := Try.zeroValue70
  t25 := Try.underlying163
  a25 := Try.isAgg163
  z25 := Try.sizeOf163
  v25 := Try.zeroValue163
  t39 := Try.underlying175
  a39 := Try.isAgg175
  z39 := Try.sizeOf175
  v39 := Try.zeroValue175
  t45 := Try.underlying185
  a45 := Try.isAgg185
  z45 := Try.sizeOf185
  v45 := Try.zeroValue185
  t46 := Try.underlying186
  a46 := Try.isAgg186
  z46 := Try.sizeOf186
  v46 := Try.zeroValue186
  t50 := Try.underlying55
  a50 := Try.isAgg55
  z50 := Try.sizeOf55
  v50 := Try.zeroValue55
  t53 := Try.underlying192
  a53 := Try.isAgg192
  z53 := Try.sizeOf192
  v53 := Try.zeroValue192
  t55 := Try.underlying194
  a55 := Try.isAgg194
  z55 := Try.sizeOf194
  v55 := Try.zeroValue194
  t66 := Try.underlying196
  a66 := Try.isAgg196
  z66 := Try.sizeOf196
  v66 := Try.zeroValue196
  t70 := Try.underlying200
  a70 := Try.isAgg200
  z70 := Try.sizeOf200
  v70 := Try.zeroValue200
  t76 := Try.underlying203
  a76 := Try.isAgg203
  z76 := Try.sizeOf203
  v76 := Try.zeroValue203
  t77 := Try.underlying179
  a77 := Try.isAgg179
  z77 := Try.sizeOf179
  v77 := Try.zeroValue179 }
end Go.Proofs
end

section
namespace Go.AB
open Go Go.Sort Go.Proofs Go.Shelf

def cmpI (a b : Int) : Int := if a < b then -1 else if b < a then 1 else 0
def cfS (x y : api_Span) : Int := if cmpI x.From y.From ≠ 0 then cmpI x.From y.From else cmpI x.To y.To
theorem compare_eq (a b : Int) : cmp_Compareint a b = some (cmpI a b) := by
  have e : ∀ x : Int, cmp_isNaNint x = some false := fun x => by
    unfold cmp_isNaNint; simp
  unfold cmp_Compareint
  refine bnd_of (e a) (bnd_of (e b) (if_not (by decide) (if_not (by decide) ?_)))
  unfold cmpI
  by_cases h1 : a < b
  · rw [if_pos h1]; exact if_of (decide_eq_true h1) rfl
  · rw [if_neg h1]
    refine if_not (by simpa using h1) ?_
    by_cases h2 : b < a
    · rw [if_pos h2]; exact if_of (decide_eq_true h2) rfl
    · rw [if_neg h2]; exact if_not (by simpa using h2) rfl
theorem before_eq (x y : api_Span) : span_before x y = some (cfS x y) := by
  refine bnd_of (compare_eq _ _) (bnd_of (compare_eq _ _) (bnd_of (a := cfS x y) ?_ rfl))
  generalize ha : cmpI x.From y.From = a
  generalize hb : cmpI x.To y.To = b
  unfold cmp_Orint cfS
  rw [ha, hb]
  by_cases h1 : a = 0
  · rw [if_neg (by simpa using h1)]
    by_cases h2 : b = 0
    · subst h1; subst h2
      refine jnS_of (z := .inl ()) (bndS_of (z := .inl ()) (iter_cnt 2 (by decide) (fun k hk => ?_) (if_not (by simp) rfl)) rfl) rfl
      match k, hk with
      | 0, _ => exact if_of (by simp) (need_of (by simp) (if_not (by simp [ix]) rfl))
      | 1, _ => exact if_of (by simp) (need_of (by simp) (if_not (by simp [ix]) rfl))
    · subst h1
      refine jnS_of (z := .inr b) (bndS_of (z := .inr b) (iter_cnt 1 (by decide) (fun k hk => ?_) ?_) rfl) rfl
      · match k, hk with
        | 0, _ => exact if_of (by simp) (need_of (by simp) (if_not (by simp [ix]) rfl))
      · exact if_of (by simp) (need_of (by simp) (if_of (by simp [ix, h2]) (by simp [ix])))
  · rw [if_pos h1]
    refine jnS_of (z := .inr a) (bndS_of (z := .inr a) (iter_cnt 0 (by decide) (fun k hk => by omega) ?_) rfl) rfl
    exact if_of (by simp) (need_of (by simp) (if_of (by simp [ix, h1]) (by simp [ix])))
theorem cmpI_lt {a b : Int} (h : a < b) : cmpI a b = -1 := by unfold cmpI; rw [if_pos h]
theorem cmpI_gt {a b : Int} (h : b < a) : cmpI a b = 1 := by unfold cmpI; rw [if_neg (by omega), if_pos h]
theorem cmpI_eq (a : Int) : cmpI a a = 0 := by unfold cmpI; rw [if_neg (by omega), if_neg (by omega)]
theorem ltOf_S (x y : api_Span) : ltOf cfS x y = decide (x.From < y.From ∨ (x.From = y.From ∧ x.To < y.To)) := by
  unfold ltOf
  congr 1
  rw [eq_iff_iff]
  unfold cfS
  rcases Int.lt_trichotomy x.From y.From with h | h | h
  · rw [cmpI_lt h]; simp; exact .inl h
  · rw [h, cmpI_eq]
    rcases Int.lt_trichotomy x.To y.To with k | k | k
    · rw [cmpI_lt k]; simp; exact k
    · rw [k, cmpI_eq]; simp
    · rw [cmpI_gt k]; simp; omega
  · rw [cmpI_gt h]; simp; omega
theorem swo_S : SWO (ltOf cfS) where
  irrefl x := by rw [ltOf_S]; simp
  trans x y z h1 h2 := by rw [ltOf_S] at *; simp at *; omega
  ntrans x y z h1 h2 := by rw [ltOf_S] at *; simp at *; omega
def encS (x : api_Span) : List Value := [.int .i64 x.From, .int .i64 x.To]
instance : Inhabited api_Span := ⟨⟨0, 0⟩⟩

theorem vr_S (w : World) (R : Nat → Nat) (x : api_Span) (j : Nat) (c : AV) (v : Value) (hc : (Enc.cells x)[j]? = some c) (hv : (encS x)[j]? = some v) : VR w R c v := by
  match j, hc, hv with
  | 0, hc, hv => cases hc; cases hv; exact .int _ _
  | 1, hc, hv => cases hc; cases hv; exact .int _ _
theorem dec_S (w : World) (R : Nat → Nat) (x : api_Span) (vs : List Value) (hl : vs.length = 2) (h : ∀ (j : Nat) (c : AV) (v : Value), (Enc.cells x)[j]? = some c → vs[j]? = some v → VR w R c v) : vs = encS x := by
  match vs, hl with
  | [a, b], _ =>
    have h0 := VR.inv_int (h 0 _ a rfl rfl)
    have h1 := VR.inv_int (h 1 _ b rfl rfl)
    rw [h0, h1]; rfl
theorem lays_S (blk off size : Nat) (w : World) : CmpLays Try.prog 113 #[] encS 2 cfS blk off size w :=
  lays_of_FE (fun x y => span_before_fe (before_eq x y)) (fun w R x => .agg _ _ (fun c hc => by
    rcases List.mem_cons.1 hc with rfl | hc
    · rfl
    · rcases List.mem_cons.1 hc with rfl | hc
      · rfl
      · cases hc) rfl fun j c v hc hv => vr_S w R x j c v hc (by simpa using hv)) blk off size w
theorem sort_calls (blk off cap : Nat) (d : Array api_Span) (w : World) (hH : HoldsK encS 2 w blk off d) (hblk : blk < w.heap.size) (hsz : d.size < 4611686018427387904) :
    Calls Try.prog 112 #[.slice (some ⟨blk, off, none⟩) d.size cap, .func (.func 113) #[] #[]] w fun e w' =>
      e = .returned (.tuple #[]) ∧ ∃ d' n os, PermIn 0 d.size d d' ∧ SortedIn (ltOf cfS) 0 d.size d' ∧ w' = sortWorldK encS 2 w blk off n d' os := by
  have eg : ∀ args w, (callFunc 113 args).run Try.prog w = .ok (.enter 113 args) w := enters_of Try.func113 (by kernel_rfl) rfl
  exact AnyQ.slices_SortFunc Try.sortSpn 2 Try.isAgg80 Try.sizeOf80 encS (fun _ => rfl) (fun x v hv => by simp [encS] at hv; rcases hv with rfl | rfl <;> rfl) cfS swo_S 113 #[] blk off cap d w eg (lays_S blk off d.size w) hH hblk hsz
theorem sortSpn_row {b cap : Nat} {l : List api_Span} {sp : List AV} {s : Store} {Q : List AV → Store → Prop} (hs : s b = some (.cells (flat l ++ sp))) (hc : 0 < cap) (hb : l.length < 4611686018427387904)
    (hq : ∀ l' : List api_Span, l'.Perm l → Asc l' → Q [] (s.set b (.cells (flat l' ++ sp)))) : FN Try.prog 112 [.arr b 0 l.length cap, .fn 113 [] []] s Q :=
  sort_fn rfl (fun _ => rfl) dec_S vr_S sort_calls hs hc hb fun l' h1 h2 => hq l' h1 (h2.imp fun {x y} h => by
    rw [ltOf_S] at h
    unfold leS
    simp at h
    omega)
end Go.AB
end

section
set_option maxRecDepth 4000
namespace Go.AB
open Go
/-- slices.insertionSortCmpFunc[catchword/api.Span] -/
def ir_InsSpn : IC :=
 (.seq (.reg none [mv 10 1,
 i1 11 (.bin .add (.t 10) (.c (.int .i64 1))),
 mv 8 11] [0, 1, 2, 3, 8])
 (.block 0 (.loop [(0, false), (1, false), (2, false), (3, false), (8, false)] (.seq (.seq (.reg none [mv 12 8,
 mv 13 2,
 i1 14 (.bin .lss (.t 12) (.t 13))] [0, 1, 2, 3, 8, 14])
 (.cond (.t 14) .skip
 (.exit 0)))
 (.seq (.block 1 (.seq (.reg none [mv 17 8,
 mv 9 17] [0, 1, 2, 3, 8, 9])
 (.block 2 (.loop [(0, false), (1, false), (2, false), (3, false), (8, false), (9, false)] (.seq (.seq (.reg (some 17) [mv 18 9,
 mv 19 1,
 i1 20 (.bin .gtr (.t 18) (.t 19)),
 mv 21 20,
 mvg 22 3 21 true,
 mvg 23 0 21 true,
 mvg 24 9 21 true,
 i1g 25 21 true (.indexAddr [.int .i64 0, .int .i64 0] (.t 23) (.t 24)),
 i1g 26 21 true (.load 2 true (.t 25)),
 mvg 27 0 21 true,
 mvg 28 9 21 true,
 i1g 29 21 true (.bin .sub (.t 28) (.c (.int .i64 1))),
 i1g 30 21 true (.indexAddr [.int .i64 0, .int .i64 0] (.t 27) (.t 29)),
 i1g 31 21 true (.load 2 true (.t 30)),
 i1g 32 21 true (.callv (.t 22) [(.t 26), (.t 31)]),
 i1g 33 21 true (.bin .lss (.t 32) (.c (.int .i64 0))),
 i1 34 (.pick (.t 21) (.t 33) (.c (.bool false)))] [0, 1, 2, 3, 8, 9, 34])
 (.cond (.t 34) .skip
 (.exit 2)))
 (.seq (.block 3 (.regB [] [(0, 0, mv 37 0),
 (0, 1, mv 38 9),
 (1, 2, mv 39 0),
 (1, 3, mv 40 9),
 (1, 4, i1 41 (.bin .sub (.t 40) (.c (.int .i64 1)))),
 (0, 5, mv 42 0),
 (0, 6, mv 43 9),
 (0, 7, i1 44 (.bin .sub (.t 43) (.c (.int .i64 1)))),
 (0, 8, i1 45 (.indexAddr [.int .i64 0, .int .i64 0] (.t 42) (.t 44))),
 (0, 9, i1 46 (.load 2 true (.t 45))),
 (0, 10, mv 47 0),
 (0, 11, mv 48 9),
 (0, 12, i1 49 (.indexAddr [.int .i64 0, .int .i64 0] (.t 47) (.t 48))),
 (0, 13, i1 50 (.load 2 true (.t 49))),
 (0, 14, i1 51 (.indexAddr [.int .i64 0, .int .i64 0] (.t 37) (.t 38))),
 (2, 15, i0 (.store 2 (.t 51) (.t 46))),
 (0, 16, i1 52 (.indexAddr [.int .i64 0, .int .i64 0] (.t 39) (.t 41))),
 (2, 17, i0 (.store 2 (.t 52) (.t 50)))] [0, 1, 2, 3, 8, 9]))
 (.reg none [mv 35 9,
 i1 36 (.bin .sub (.t 35) (.c (.int .i64 1))),
 mv 9 36] [0, 1, 2, 3, 8, 9])))))))
 (.reg none [mv 15 8,
 i1 16 (.bin .add (.t 15) (.c (.int .i64 1))),
 mv 8 16] [0, 1, 2, 3, 8]))))))
def res_InsSpn : List IRes := []
theorem is_InsSpn : fnIs Go.Proofs.Try.prog 136 53 res_InsSpn ir_InsSpn = true := by kernel_rfl

/-- slices.pdqsortCmpFunc[catchword/api.Span] -/
def ir_PdqSpn : IC :=
 (.seq (.reg none [i1 10 (.mov false (.c (.bool true)))] [0, 1, 2, 3, 4, 10])
 (.seq (.reg none [i1 11 (.mov false (.c (.bool true)))] [0, 1, 2, 3, 4, 10, 11])
 (.block 0 (.loop [(0, false), (1, false), (2, false), (3, false), (4, false), (10, false), (11, false)] (.block 1 (.seq (.reg none [mv 21 2,
 mv 22 1,
 i1 23 (.bin .sub (.t 21) (.t 22)),
 mv 12 23] [0, 1, 2, 3, 4, 10, 11, 12])
 (.seq (.seq (.reg none [mv 24 12,
 i1 25 (.bin .leq (.t 24) (.c (.int .i64 12)))] [0, 1, 2, 3, 4, 10, 11, 12, 25])
 (.cond (.t 25) (.seq (.reg none [mv 26 0,
 mv 27 1,
 mv 28 2,
 mv 29 4,
 i1 30 (.call 136 [(.t 26), (.t 27), (.t 28), (.t 29)])] [])
 .ret)
 .skip))
 (.seq (.seq (.reg none [mv 31 3,
 i1 32 (.bin .eql (.t 31) (.c (.int .i64 0)))] [0, 1, 2, 3, 4, 10, 11, 12, 32])
 (.cond (.t 32) (.seq (.reg none [mv 33 0,
 mv 34 1,
 mv 35 2,
 mv 36 4,
 i1 37 (.call 137 [(.t 33), (.t 34), (.t 35), (.t 36)])] [])
 .ret)
 .skip))
 (.seq (.seq (.reg none [mv 38 10,
 i1 39 (.un .not (.t 38))] [0, 1, 2, 3, 4, 10, 11, 12, 39])
 (.cond (.t 39) (.seq (.reg none [mv 40 0,
 mv 41 1,
 mv 42 2,
 mv 43 4,
 i1 44 (.call 138 [(.t 40), (.t 41), (.t 42), (.t 43)])] [0, 1, 2, 3, 4, 10, 11, 12])
 (.reg none [mv 45 3,
 i1 46 (.bin .sub (.t 45) (.c (.int .i64 1))),
 mv 3 46] [0, 1, 2, 3, 4, 10, 11, 12]))
 .skip))
 (.seq (.reg none [mv 48 0,
 mv 49 1,
 mv 50 2,
 mv 51 4,
 i1 52 (.call 139 [(.t 48), (.t 49), (.t 50), (.t 51)]),
 mv 47 52,
 i1 53 (.extract (.t 47) 0),
 i1 54 (.extract (.t 47) 1),
 mv 13 53,
 mv 14 54] [0, 1, 2, 3, 4, 10, 11, 12, 13, 14])
 (.seq (.seq (.reg none [mv 55 14,
 i1 56 (.bin .eql (.t 55) (.c (.int .i64 2)))] [0, 1, 2, 3, 4, 10, 11, 12, 13, 14, 56])
 (.cond (.t 56) (.seq (.reg none [mv 57 0,
 mv 58 1,
 mv 59 2,
 mv 60 4,
 i1 61 (.call 140 [(.t 57), (.t 58), (.t 59), (.t 60)])] [0, 1, 2, 3, 4, 10, 11, 12, 13])
 (.seq (.reg none [mv 62 2,
 i1 63 (.bin .sub (.t 62) (.c (.int .i64 1))),
 mv 64 13,
 mv 65 1,
 i1 66 (.bin .sub (.t 64) (.t 65)),
 i1 67 (.bin .sub (.t 63) (.t 66)),
 mv 13 67] [0, 1, 2, 3, 4, 10, 11, 12, 13])
 (.reg none [i1 14 (.mov false (.c (.int .i64 1)))] [0, 1, 2, 3, 4, 10, 11, 12, 13, 14])))
 .skip))
 (.seq (.seq (.reg none [mv 68 10,
 mv 69 68,
 mvg 70 11 69 true,
 i1 71 (.pick (.t 69) (.t 70) (.c (.bool false))),
 mv 72 71,
 mvg 73 14 72 true,
 i1g 74 72 true (.bin .eql (.t 73) (.c (.int .i64 1))),
 i1 75 (.pick (.t 72) (.t 74) (.c (.bool false)))] [0, 1, 2, 3, 4, 10, 11, 12, 13, 75])
 (.cond (.t 75) (.seq (.reg none [mv 76 0,
 mv 77 1,
 mv 78 2,
 mv 79 4,
 i1 80 (.call 141 [(.t 76), (.t 77), (.t 78), (.t 79)])] [0, 1, 2, 3, 4, 10, 11, 12, 13, 80])
 (.cond (.t 80) .ret
 .skip))
 .skip))
 (.seq (.seq (.reg (some 17) [mv 81 1,
 i1 82 (.bin .gtr (.t 81) (.c (.int .i64 0))),
 mv 83 82,
 mvg 84 4 83 true,
 mvg 85 0 83 true,
 mvg 86 1 83 true,
 i1g 87 83 true (.bin .sub (.t 86) (.c (.int .i64 1))),
 i1g 88 83 true (.indexAddr [.int .i64 0, .int .i64 0] (.t 85) (.t 87)),
 i1g 89 83 true (.load 2 true (.t 88)),
 mvg 90 0 83 true,
 mvg 91 13 83 true,
 i1g 92 83 true (.indexAddr [.int .i64 0, .int .i64 0] (.t 90) (.t 91)),
 i1g 93 83 true (.load 2 true (.t 92)),
 i1g 94 83 true (.callv (.t 84) [(.t 89), (.t 93)]),
 i1g 95 83 true (.bin .lss (.t 94) (.c (.int .i64 0))),
 i1g 96 83 true (.un .not (.t 95)),
 i1 97 (.pick (.t 83) (.t 96) (.c (.bool false)))] [0, 1, 2, 3, 4, 10, 11, 12, 13, 97])
 (.cond (.t 97) (.seq (.reg none [mv 98 0,
 mv 99 1,
 mv 100 2,
 mv 101 13,
 mv 102 4,
 i1 103 (.call 142 [(.t 98), (.t 99), (.t 100), (.t 101), (.t 102)]),
 mv 15 103] [0, 2, 3, 4, 10, 11, 15])
 (.seq (.reg none [mv 104 15,
 mv 1 104] [0, 1, 2, 3, 4, 10, 11])
 (.exit 1)))
 .skip))
 (.seq (.reg none [mv 106 0,
 mv 107 1,
 mv 108 2,
 mv 109 13,
 mv 110 4,
 i1 111 (.call 143 [(.t 106), (.t 107), (.t 108), (.t 109), (.t 110)]),
 mv 105 111,
 i1 112 (.extract (.t 105) 0),
 i1 113 (.extract (.t 105) 1),
 mv 16 112,
 mv 17 113] [0, 1, 2, 3, 4, 12, 16, 17])
 (.seq (.reg none [mv 114 17,
 mv 11 114] [0, 1, 2, 3, 4, 11, 12, 16])
 (.seq (.reg none [mv 115 16,
 mv 116 1,
 i1 117 (.bin .sub (.t 115) (.t 116)),
 mv 118 2,
 mv 119 16,
 i1 120 (.bin .sub (.t 118) (.t 119)),
 mv 18 117,
 mv 19 120] [0, 1, 2, 3, 4, 11, 12, 16, 18, 19])
 (.seq (.reg none [mv 121 12,
 i1 122 (.bin .quo (.t 121) (.c (.int .i64 8))),
 mv 20 122] [0, 1, 2, 3, 4, 11, 16, 18, 19, 20])
 (.seq (.reg none [mv 123 18,
 mv 124 19,
 i1 125 (.bin .lss (.t 123) (.t 124))] [0, 1, 2, 3, 4, 11, 16, 18, 19, 20, 125])
 (.cond (.t 125) (.seq (.reg none [mv 126 18,
 mv 127 20,
 i1 128 (.bin .geq (.t 126) (.t 127)),
 mv 10 128] [0, 1, 2, 3, 4, 10, 11, 16])
 (.seq (.reg none [mv 129 0,
 mv 130 1,
 mv 131 16,
 mv 132 3,
 mv 133 4,
 i1 134 (.call 127 [(.t 129), (.t 130), (.t 131), (.t 132), (.t 133)])] [0, 2, 3, 4, 10, 11, 16])
 (.reg none [mv 135 16,
 i1 136 (.bin .add (.t 135) (.c (.int .i64 1))),
 mv 1 136] [0, 1, 2, 3, 4, 10, 11])))
 (.seq (.reg none [mv 137 19,
 mv 138 20,
 i1 139 (.bin .geq (.t 137) (.t 138)),
 mv 10 139] [0, 1, 2, 3, 4, 10, 11, 16])
 (.seq (.reg none [mv 140 0,
 mv 141 16,
 i1 142 (.bin .add (.t 141) (.c (.int .i64 1))),
 mv 143 2,
 mv 144 3,
 mv 145 4,
 i1 146 (.call 127 [(.t 140), (.t 142), (.t 143), (.t 144), (.t 145)])] [0, 1, 3, 4, 10, 11, 16])
 (.reg none [mv 147 16,
 mv 2 147] [0, 1, 2, 3, 4, 10, 11]))))))))))))))))))))))
def res_PdqSpn : List IRes := []
theorem is_PdqSpn : fnIs Go.Proofs.Try.prog 127 148 res_PdqSpn ir_PdqSpn = true := by kernel_rfl

/-- slices.SortFunc[[]catchword/api.Span,catchword/api.Span] -/
def ir_SortSpn : IC :=
 (.seq (.reg none [mv 5 0,
 i1 6 (.len 0 (.t 5)),
 mv 4 6] [0, 1, 4])
 (.reg none [mv 7 0,
 mv 8 4,
 mv 9 4,
 i1 10 (.cvtInt .u64 (.t 9)),
 i1 11 (.call 128 [(.t 10)]),
 mv 12 1,
 i1 13 (.call 127 [(.t 7), (.c (.int .i64 0)), (.t 8), (.t 11), (.t 12)])] []))
def res_SortSpn : List IRes := []
theorem is_SortSpn : fnIs Go.Proofs.Try.prog 112 14 res_SortSpn ir_SortSpn = true := by kernel_rfl


theorem bitsLen0 {s : Store} {Q : List AV → Store → Prop} (hq : Q [.int .i64 0] s) : FN Go.Proofs.Try.prog 128 [.int .u64 0] s Q := by
  intro G w vs hg ho hst ha
  have hvs : vs = #[.int .u64 0] := by
    obtain ⟨h1, h2⟩ := ha
    have h1' : vs.size = 1 := h1
    apply Array.ext (by simpa using h1')
    intro i hi1 hi2
    have hi : i < 1 := by omega
    match i, hi with
    | 0, _ => exact VR.inv_int (h2 0 _ _ rfl (Array.getElem?_eq_getElem (by omega)))
  subst hvs
  have h := Go.Proofs.Any.bits_Len (Go.Proofs.SlLaysF0.n15.bits (P := Go.Proofs.Try.prog) (ρ := Go.Proofs.Try.sortSpn_ren) { Go.Proofs.Try.sortSpn with }) 0 w (by omega) (by omega)
  refine h.mono ?_
  rintro e w' ⟨rfl, rfl⟩
  exact ⟨_, [.int .i64 0], s, G, rfl, hq, hg, hst, ⟨.int _ _, trivial⟩, Pres.refl G w'⟩
theorem insSpn_nil {b off : Nat} {s : Store} {Q : List AV → Store → Prop} (hq : Q [] s) : FN Go.Proofs.Try.prog 136 [.arr b off 0 0, .int .i64 0, .int .i64 0, .fn 113 [] []] s Q := by
  refine FN.of (draw_ok mix) is_InsSpn rfl (Nat.le_of_ble_eq_true rfl) ?_
  rw [ir_InsSpn, res_InsSpn]
  simp -implicitDefEqProofs only [go_sem, start, startE, resVs, resV, resC, allV, retK, Nat.reduceBEq, Nat.reduceAdd, Nat.reduceMul, Nat.reduceLeDiff, Nat.reduceEqDiff, Nat.reduceBNe, Nat.ble_eq, UInt8.reduceToNat]
  refine ⟨fun τ => τ = _, fun _ => 0, rfl, ?_⟩
  rintro τ rfl
  simp -implicitDefEqProofs only [go_sem, start, startE, resVs, resV, resC, allV, retK, Nat.reduceBEq, Nat.reduceAdd, Nat.reduceMul, Nat.reduceLeDiff, Nat.reduceEqDiff, Nat.reduceBNe, Nat.ble_eq, UInt8.reduceToNat, show w64 (0 + 1) = 1 from by decide]
  refine ⟨fun h => absurd (of_decide_eq_true h) (by decide), fun _ => ?_⟩
  first | exact hq | (simp -implicitDefEqProofs only [go_sem, start, startE, resVs, resV, resC, allV, retK, Nat.reduceBEq, Nat.reduceAdd, Nat.reduceMul, Nat.reduceLeDiff, Nat.reduceEqDiff, Nat.reduceBNe, Nat.ble_eq, UInt8.reduceToNat]; exact hq)
theorem pdqSpn_nil {b off : Nat} {r : Int} {s : Store} {Q : List AV → Store → Prop} (hq : Q [] s) : FN Go.Proofs.Try.prog 127 [.arr b off 0 0, .int .i64 0, .int .i64 0, .int .i64 r, .fn 113 [] []] s Q := by
  refine FN.of (draw_ok mix) is_PdqSpn rfl (Nat.le_of_ble_eq_true rfl) ?_
  rw [ir_PdqSpn, res_PdqSpn]
  simp -implicitDefEqProofs only [go_sem, start, startE, resVs, resV, resC, allV, retK, Nat.reduceBEq, Nat.reduceAdd, Nat.reduceMul, Nat.reduceLeDiff, Nat.reduceEqDiff, Nat.reduceBNe, Nat.ble_eq, UInt8.reduceToNat]
  refine ⟨fun τ => τ = _, fun _ => 0, rfl, ?_⟩
  rintro τ rfl
  simp -implicitDefEqProofs only [go_sem, start, startE, resVs, resV, resC, allV, retK, Nat.reduceBEq, Nat.reduceAdd, Nat.reduceMul, Nat.reduceLeDiff, Nat.reduceEqDiff, Nat.reduceBNe, Nat.ble_eq, UInt8.reduceToNat, show w64 (0 - 0) = 0 from by decide]
  refine ⟨fun _ => insSpn_nil ?_, fun h => absurd (of_decide_eq_false h) (by decide)⟩
  simp -implicitDefEqProofs only [go_sem, start, startE, resVs, resV, resC, allV, retK, Nat.reduceBEq, Nat.reduceAdd, Nat.reduceMul, Nat.reduceLeDiff, Nat.reduceEqDiff, Nat.reduceBNe, Nat.ble_eq, UInt8.reduceToNat]
  exact hq
theorem sortSpn_nil {b off : Nat} {s : Store} {Q : List AV → Store → Prop} (hq : Q [] s) : FN Go.Proofs.Try.prog 112 [.arr b off 0 0, .fn 113 [] []] s Q := by
  refine FN.of (draw_ok mix) is_SortSpn rfl (Nat.le_of_ble_eq_true rfl) ?_
  rw [ir_SortSpn, res_SortSpn]
  simp -implicitDefEqProofs only [go_sem, start, startE, resVs, resV, resC, allV, retK, Nat.reduceBEq, Nat.reduceAdd, Nat.reduceMul, Nat.reduceLeDiff, Nat.reduceEqDiff, Nat.reduceBNe, Nat.ble_eq, UInt8.reduceToNat]
  refine bitsLen0 ?_
  simp -implicitDefEqProofs only [go_sem, start, startE, resVs, resV, resC, allV, retK, Nat.reduceBEq, Nat.reduceAdd, Nat.reduceMul, Nat.reduceLeDiff, Nat.reduceEqDiff, Nat.reduceBNe, Nat.ble_eq, UInt8.reduceToNat]
  refine pdqSpn_nil ?_
  simp -implicitDefEqProofs only [go_sem, start, startE, resVs, resV, resC, allV, retK, Nat.reduceBEq, Nat.reduceAdd, Nat.reduceMul, Nat.reduceLeDiff, Nat.reduceEqDiff, Nat.reduceBNe, Nat.ble_eq, UInt8.reduceToNat]
  exact hq
end Go.AB
end

section
set_option maxRecDepth 4000
namespace Go.AB
open Go
def ir_Join_tail : IC := (.seq (.reg none [i1 6 (.mov false (.c (.arr 0 0 0 0)))] [1, 5, 6])
 (.seq (.seq (.reg none [mv 17 5,
 i1 18 (.len 0 (.t 17)),
 i1 19 (.mov false (.c (.int .i64 0)))] [1, 6, 17, 18, 19])
 (.block 0 (.loop [(1, false), (6, false), (17, false), (18, false), (19, false)] (.seq (.reg none [i1 20 (.bin .lss (.t 19) (.t 18))] [1, 6, 17, 18, 19, 20])
 (.seq (.cond (.t 20) .skip
 (.exit 0))
 (.seq (.block 1 (.seq (.reg none [i1 21 (.indexAddr [.int .i64 0, .int .i64 0] (.t 17) (.t 19)),
 i1 22 (.loadR [.int .i64 0, .int .i64 0] true (.t 21)),
 i1 8 (.allocL [.int .i64 0, .int .i64 0]),
 i0 (.store 2 (.t 8) (.t 22))] [1, 6, 8, 17, 18, 19])
 (.seq (.seq (.reg none [mv 23 6,
 i1 24 (.len 0 (.t 23)),
 mv 9 24] [1, 6, 8, 9, 17, 18, 19])
 (.seq (.reg (some 15) [mv 25 9,
 i1 26 (.bin .gtr (.t 25) (.c (.int .i64 0))),
 mv 27 26,
 i1g 28 27 true (.fieldAddr 0 (.t 8)),
 i1g 29 27 true (.load 1 false (.t 28)),
 mvg 30 6 27 true,
 mvg 31 9 27 true,
 i1g 32 27 true (.bin .sub (.t 31) (.c (.int .i64 1))),
 i1g 33 27 true (.indexAddr [.int .i64 0, .int .i64 0] (.t 30) (.t 32)),
 i1g 34 27 true (.fieldAddr 1 (.t 33)),
 i1g 35 27 true (.loadI .i64 (.t 34)),
 i1g 36 27 true (.bin .sub (.t 29) (.t 35)),
 mvg 37 1 27 true,
 i1g 38 27 true (.bin .leq (.t 36) (.t 37)),
 i1 39 (.pick (.t 27) (.t 38) (.c (.bool false)))] [1, 6, 8, 9, 17, 18, 19, 39])
 (.cond (.t 39) (.seq (.reg (some 14) [mv 40 6,
 mv 41 9,
 i1 42 (.bin .sub (.t 41) (.c (.int .i64 1))),
 mv 43 6,
 mv 44 9,
 i1 45 (.bin .sub (.t 44) (.c (.int .i64 1))),
 i1 46 (.indexAddr [.int .i64 0, .int .i64 0] (.t 43) (.t 45)),
 i1 47 (.fieldAddr 1 (.t 46)),
 i1 48 (.loadI .i64 (.t 47)),
 i1 49 (.fieldAddr 1 (.t 8)),
 i1 50 (.load 1 false (.t 49)),
 i1 51 (.minmax true [(.t 48), (.t 50)]),
 i1 52 (.indexAddr [.int .i64 0, .int .i64 0] (.t 40) (.t 42)),
 i1 53 (.fieldAddr 1 (.t 52)),
 i0 (.store 1 (.t 53) (.t 51))] [1, 6, 17, 18, 19])
 (.exit 1))
 .skip)))
 (.reg none [mv 54 6,
 i1 55 (.load 2 true (.t 8)),
 i1 56 (.buildSl 2 1 [.int .i64 0, .int .i64 0] [(0, 2, (.t 55))]),
 i1 57 (.appendA 2 16 [.int .i64 0, .int .i64 0] (.t 54) (.t 56)),
 mv 6 57] [1, 6, 17, 18, 19]))))
 (.reg none [i1 58 (.bin .add (.t 19) (.c (.int .i64 1))),
 mv 19 58] [1, 6, 17, 18, 19])))))))
 (.seq (.reg none [mv 59 6,
 i1 4 (.frz 2 true (.t 59))] [4])
 .ret)))
/-- catchword/span.Join -/
def ir_span_Join : IC :=
 (.seq (.reg none [i1 4 (.mov true (.c (.sl true 2 0 [])))] [0, 1])
 (.seq (.reg none [mv 10 1,
 i1 11 (.minmax true [(.c (.int .i64 0)), (.t 10)]),
 mv 1 11] [0, 1])
 (.seq (.reg none [mt 12 0,
 i1 13 (.call 110 [(.t 12)]),
 i1 14 (.callU 109 13 [(.t 13), (.c (.fn 111 [] []))]),
 mv 5 14] [1, 5])
 (.seq (.reg none [mv 15 5,
 i1 16 (.call 112 [(.t 15), (.c (.fn 113 [] []))])] [1, 5])
 ir_Join_tail))))
def res_span_Join : List IRes := [⟨4, true, none⟩]
theorem is_span_Join : fnIs Go.Proofs.Try.prog 80 60 res_span_Join ir_span_Join = true := by kernel_rfl

theorem joinStep_len (gap : Int) (out : List api_Span) (x : api_Span) : (joinStep gap out x).length ≤ out.length + 1 ∧ 0 < (joinStep gap out x).length := by
  unfold joinStep
  split
  · simp
  · split
    · simp
    · simp
theorem joinL_len (gap : Int) : ∀ (l out : List api_Span), (l.foldl (joinStep gap) out).length ≤ out.length + l.length
  | [], out => by simp
  | x :: l, out => by
    have h1 := joinL_len gap l (joinStep gap out x)
    have h2 := (joinStep_len gap out x).1
    simp only [List.foldl_cons, List.length_cons]; omega
theorem join_tail {b off cap : Nat} {F : List api_Span} {s1 : Store} {gap : Int} {Q : List AV → Store → Prop} (hF : 0 < F.length → off = 0 ∧ ∃ sp, s1 b = some (.cells (flat F ++ sp))) (hl : F.length * 16 ≤ room)
    (hq : ∀ s', Sub s1 s' → Q [.sl true 2 (joinL gap F).length (flat (joinL gap F))] s') : cwp Go.Proofs.Try.prog ir_Join_tail (retK res_span_Join Q) ⟨[(1, .int .i64 gap), (5, .arr b off F.length cap)], [], s1⟩ := by
  have hl' := hl
  unfold room at hl'
  rw [ir_Join_tail, res_span_Join]
  simp -implicitDefEqProofs only [go_sem, start, startE, resVs, resV, resC, allV, retK, Nat.reduceBEq, Nat.reduceAdd, Nat.reduceMul, Nat.reduceLeDiff, Nat.reduceEqDiff, Nat.reduceBNe, Nat.ble_eq, UInt8.reduceToNat]
  refine ⟨fun τ => ∃ (k : Nat) (s' : Store) (r : RowP), τ = ⟨[(1, .int .i64 gap), (6, rowA r ((F.take k).foldl (joinStep gap) []).length), (17, .arr b off F.length cap), (18, .int .i64 (F.length : Nat)), (19, .int .i64 (k : Nat))], [], rowS s' r ((F.take k).foldl (joinStep gap) [])⟩ ∧ k ≤ F.length ∧ Sub s1 s' ∧ RowOK s' r ((F.take k).foldl (joinStep gap) []),
    fun τ => match look τ.e 19 with | .int _ j => F.length - j.toNat | _ => 0, ⟨0, s1, none, rfl, Nat.zero_le _, Sub.refl _, rfl⟩, ?_⟩
  rintro τ ⟨k, s', r, rfl, hk, hs, hok⟩
  have hol := joinL_len gap (F.take k) []
  rw [List.length_take] at hol
  simp only [List.length_nil] at hol
  generalize hO : (F.take k).foldl (joinStep gap) [] = O at hok hol
  simp -implicitDefEqProofs only [go_sem, start, startE, resVs, resV, resC, allV, retK, Nat.reduceBEq, Nat.reduceAdd, Nat.reduceMul, Nat.reduceLeDiff, Nat.reduceEqDiff, Nat.reduceBNe, Nat.ble_eq, UInt8.reduceToNat]
  refine ⟨fun hkl => ?_, fun hkl => ?_⟩
  · have hkl : k < F.length := by have := of_decide_eq_true hkl; omega
    obtain ⟨rfl, sp, hb⟩ := hF (by omega)
    have hb' := rowS_get hok (hs b _ hb)
    have hx : views (AB.sub (flat F ++ sp) (k * 2) 2) = [.int .i64 (F[k]).From, .int .i64 (F[k]).To] := by
      have := row_sub F sp 2 k 1 rfl (by omega)
      rw [Nat.one_mul] at this
      rw [this, List.drop_eq_getElem_cons hkl]; rfl
    have hfit : decide (k * 2 + 2 ≤ (flat F).length + sp.length) = true := decide_eq_true (by rw [flat_len]; show k * 2 + 2 ≤ F.length * 2 + _; omega)
    simp -implicitDefEqProofs only [go_sem, start, startE, resVs, resV, resC, allV, retK, Nat.reduceBEq, Nat.reduceAdd, Nat.reduceMul, Nat.reduceLeDiff, Nat.reduceEqDiff, Nat.reduceBNe, Nat.ble_eq, UInt8.reduceToNat, hb', hx, hfit]
    have hw1 : w64 ((k : Int) + 1) = ((k + 1 : Nat) : Int) := by rw [w64_id (by omega) (by omega)]; omega
    have hstep : (F.take (k + 1)).foldl (joinStep gap) [] = joinStep gap O F[k] := by
      rw [List.take_succ_eq_append_getElem hkl, List.foldl_append, hO]; rfl
    refine ⟨⟨by omega, by omega⟩, of_decide_eq_true hfit, ?_⟩
    have hmin : min k F.length = k := by omega
    rw [hmin] at hol
    have hroom : (O.length + 1) * 16 ≤ room := by unfold room; omega
    rcases List.eq_nil_or_concat O with rfl | ⟨O, y, rfl⟩
    · have e0 : decide ((([] : List api_Span).length : Int) > 0) = false := by decide
      have hj : joinStep gap [] F[k] = [] ++ [F[k]] := rfl
      rw [e0]
      refine ⟨fun h => (by cases h), fun h => (by cases h), fun h => (by cases h), fun _ => ?_⟩
      rw [srcV_sl]
      refine app_row (z := api_Span.mk 0 0) (v := F[k]) rfl hok rfl hroom fun s2 r' h1 h2 => ?_
      simp -implicitDefEqProofs only [go_sem, start, startE, resVs, resV, resC, allV, retK, Nat.reduceBEq, Nat.reduceAdd, Nat.reduceMul, Nat.reduceLeDiff, Nat.reduceEqDiff, Nat.reduceBNe, Nat.ble_eq, UInt8.reduceToNat, hw1]
      refine ⟨⟨k + 1, s2, r', ?_, hkl, fun b o hb => h1 b o (hs b o hb), ?_⟩, by omega⟩
      · rw [hstep, hj]; rfl
      · rw [hstep, hj]; exact h2
    · rw [List.concat_eq_append] at hok hol hO hstep hroom ⊢
      rw [joinStep_snoc] at hstep
      have hlen3 : (O ++ [y]).length = O.length + 1 := by simp
      have hw : w64 (((O ++ [y]).length : Int) - 1) = (O.length : Int) := by rw [hlen3, w64_id (by omega) (by omega)]; omega
      have e0 : decide (((O ++ [y]).length : Int) > 0) = true := decide_eq_true (by omega)
      obtain ⟨b2, cap2, sp2, rfl⟩ := row_at hok (by simp)
      have hget : rowS s' (some (b2, cap2, sp2)) (O ++ [y]) b2 = some (.cells (flat (O ++ [y]) ++ sp2)) := set_at
      have hcell := last_cell O y sp2
      have hcc : loadIc .i64 (O.length * 2 + 1) (some (.cells (flat (O ++ [y]) ++ sp2))) := ⟨_, hcell⟩
      have hvv : loadIv (O.length * 2 + 1) (some (.cells (flat (O ++ [y]) ++ sp2))) = y.To := by
        show intOf _ = _
        rw [hcell]; rfl
      rw [hw, e0, Int.toNat_natCast, show rowB (some (b2, cap2, sp2)) = b2 from rfl, hget, hvv, Bool.true_and]
      refine ⟨fun _ => ⟨by omega, by omega⟩, fun _ => hcc, fun he => ⟨⟨by omega, by omega⟩, hcc, ⟨by omega, by omega⟩, ?_⟩, fun he => ?_⟩
      · have he := of_decide_eq_true he
        rw [if_pos he] at hstep
        have hlen2 : (O ++ [(⟨y.From, max y.To (F[k]).To⟩ : api_Span)]).length = O.length + 1 := by simp
        show stK none _ (wrS _ b2 (wrCells (O.length * 2 + 1) [AV.int .i64 (max y.To (F[k]).To)] (flat (O ++ [y]) ++ sp2)))
        unfold wrCells
        rw [decide_eq_true (show O.length * 2 + 1 + [AV.int .i64 (max y.To (F[k]).To)].length ≤ _ from last_fit O y sp2), setAt_last]
        generalize hX : flat (O ++ [(⟨y.From, max y.To (F[k]).To⟩ : api_Span)]) ++ sp2 = X
        simp -implicitDefEqProofs only [go_sem, start, startE, resVs, resV, resC, allV, retK, Nat.reduceBEq, Nat.reduceAdd, Nat.reduceMul, Nat.reduceLeDiff, Nat.reduceEqDiff, Nat.reduceBNe, Nat.ble_eq, UInt8.reduceToNat, hw1]
        have e : (rowS s' (some (b2, cap2, sp2)) (O ++ [y])).set b2 (.cells X) = rowS s' (some (b2, cap2, sp2)) (O ++ [(⟨y.From, max y.To (F[k]).To⟩ : api_Span)]) := by
          rw [← hX]; exact set_set ..
        refine ⟨⟨k + 1, s', some (b2, cap2, sp2), ?_, hkl, hs, ?_⟩, by omega⟩
        · rw [hstep, e, hlen2]; rfl
        · rw [hstep]; exact row_upd hok (by rw [hlen2, hlen3])
      · have he := of_decide_eq_false he
        rw [if_neg he] at hstep
        rw [srcV_sl]
        refine app_row (z := api_Span.mk 0 0) (v := F[k]) rfl hok rfl hroom fun s2 r' h1 h2 => ?_
        simp -implicitDefEqProofs only [go_sem, start, startE, resVs, resV, resC, allV, retK, Nat.reduceBEq, Nat.reduceAdd, Nat.reduceMul, Nat.reduceLeDiff, Nat.reduceEqDiff, Nat.reduceBNe, Nat.ble_eq, UInt8.reduceToNat, hw1]
        have hlen2 : (O ++ [y] ++ [F[k]]).length = O.length + 1 + 1 := by simp
        refine ⟨⟨k + 1, s2, r', ?_, hkl, fun b o hb => h1 b o (hs b o hb), ?_⟩, by omega⟩
        · rw [hstep, hlen2]
        · rw [hstep]; exact h2
  · have hkl : k = F.length := by have := of_decide_eq_false hkl; omega
    subst hkl
    rw [List.take_length] at hO
    have hO' : joinL gap F = O := hO
    rw [hO'] at hq
    refine frz_row (s := s') (r := r) (l := O) rfl hok rfl ?_
    simp -implicitDefEqProofs only [go_sem, start, startE, resVs, resV, resC, allV, retK, Nat.reduceBEq, Nat.reduceAdd, Nat.reduceMul, Nat.reduceLeDiff, Nat.reduceEqDiff, Nat.reduceBNe, Nat.ble_eq, UInt8.reduceToNat]
    exact hq s' hs
/-- The one row in order. -/
def leB (x y : api_Span) : Bool := decide (x.From < y.From ∨ (x.From = y.From ∧ x.To ≤ y.To))
def srt (l : List api_Span) : List api_Span := l.mergeSort leB
theorem srt_asc (l : List api_Span) : Asc (srt l) := by
  have h := List.pairwise_mergeSort (le := leB) (fun a b c h1 h2 => by unfold leB at *; simp at *; omega) (fun a b => by unfold leB; simp; omega) l
  exact h.imp fun {a b} h => by unfold leB at h; unfold leS; simpa using h
theorem asc_unique : ∀ {l m : List api_Span}, l.Perm m → Asc l → Asc m → l = m
  | [], m, hp, _, _ => (List.nil_perm.1 hp).symm
  | x :: l, [], hp, _, _ => by have := hp.length_eq; simp at this
  | x :: l, y :: m, hp, hl, hm => by
    have hxm : x ∈ y :: m := hp.mem_iff.1 List.mem_cons_self
    have hyl : y ∈ x :: l := hp.mem_iff.2 List.mem_cons_self
    have e : x = y := by
      rcases List.mem_cons.1 hxm with h | h
      · exact h
      · rcases List.mem_cons.1 hyl with h' | h'
        · exact h'.symm
        · have h1 := (List.pairwise_cons.1 hm).1 x h
          have h2 := (List.pairwise_cons.1 hl).1 y h'
          obtain ⟨a, b⟩ := x; obtain ⟨c, d⟩ := y
          unfold leS at h1 h2
          simp only at h1 h2
          have e1 : a = c := by omega
          have e2 : b = d := by omega
          rw [e1, e2]
    subst e
    rw [asc_unique (List.Perm.cons_inv hp) (List.pairwise_cons.1 hl).2 (List.pairwise_cons.1 hm).2]
def span_Join (l : List api_Span) (gap : Int) : Option (List api_Span) := need (l.length * 16 ≤ room) (some (joinL (max 0 gap) (srt (full l))))
theorem span_Join_fn {l : List api_Span} {gap : Int} {s : Store} {Q : List AV → Store → Prop} (h : ok (span_Join l gap) fun r => Q [.sl true 2 r.length (flat r)] s) : FN Go.Proofs.Try.prog 80 [.sl false 2 l.length (flat l), .int .i64 gap] s Q := by
  unfold span_Join at h
  rw [ok_need, ok_some] at h
  obtain ⟨hr, hq⟩ := h
  have hfull : (full l).length ≤ l.length := List.length_filter_le _ _
  have hsl : (srt (full l)).length = (full l).length := List.length_mergeSort _
  refine FN.weak ?_
  refine FN.of (draw_ok mix) is_span_Join rfl (Nat.le_of_ble_eq_true rfl) ?_
  rw [ir_span_Join, res_span_Join]
  simp -implicitDefEqProofs only [go_sem, start, startE, resVs, resV, resC, allV, retK, Nat.reduceBEq, Nat.reduceAdd, Nat.reduceMul, Nat.reduceLeDiff, Nat.reduceEqDiff, Nat.reduceBNe, Nat.ble_eq, UInt8.reduceToNat]
  refine FE.app (cloneSpn_us hr) ?_
  simp -implicitDefEqProofs only [go_sem, start, startE, resVs, resV, resC, allV, retK, Nat.reduceBEq, Nat.reduceAdd, Nat.reduceMul, Nat.reduceLeDiff, Nat.reduceEqDiff, Nat.reduceBNe, Nat.ble_eq, UInt8.reduceToNat]
  refine ⟨fun b cap sp hb h0 hn hl hf hv => ?_, fun hn b off => ?_⟩
  · simp -implicitDefEqProofs only [go_sem, start, startE, resVs, resV, resC, allV, retK, Nat.reduceBEq, Nat.reduceAdd, Nat.reduceMul, Nat.reduceLeDiff, Nat.reduceEqDiff, Nat.reduceBNe, Nat.ble_eq, UInt8.reduceToNat]
    refine delSpn_row hr set_at hn hl fun sp' hl' => ?_
    simp -implicitDefEqProofs only [go_sem, start, startE, resVs, resV, resC, allV, retK, Nat.reduceBEq, Nat.reduceAdd, Nat.reduceMul, Nat.reduceLeDiff, Nat.reduceEqDiff, Nat.reduceBNe, Nat.ble_eq, UInt8.reduceToNat]
    have hfc : (full l).length ≤ cap := by omega
    refine sortSpn_row set_at h0 (by unfold room at hr; omega) fun F hp hasc => ?_
    simp -implicitDefEqProofs only [go_sem, start, startE, resVs, resV, resC, allV, retK, Nat.reduceBEq, Nat.reduceAdd, Nat.reduceMul, Nat.reduceLeDiff, Nat.reduceEqDiff, Nat.reduceBNe, Nat.ble_eq, UInt8.reduceToNat]
    have hF : F = srt (full l) := asc_unique (hp.trans (List.mergeSort_perm _ _).symm) hasc (srt_asc _)
    have hFl : F.length = (full l).length := by rw [hF, hsl]
    rw [← hFl]
    refine join_tail (fun _ => ⟨rfl, sp', ?_⟩) (by omega) fun s' hs' => ?_
    · exact set_at
    · rw [hF]
      refine ⟨s, fun b' o' h' => hs' b' o' ?_, hq⟩
      have hb : s b = none := hb
      have hne : b' ≠ b := fun e => by rw [e, hb] at h'; cases h'
      unfold Store.set
      rw [if_neg hne]; exact h'
  · have hl0 : l = [] := List.eq_nil_of_length_eq_zero hn
    subst hl0
    simp -implicitDefEqProofs only [go_sem, start, startE, resVs, resV, resC, allV, retK, Nat.reduceBEq, Nat.reduceAdd, Nat.reduceMul, Nat.reduceLeDiff, Nat.reduceEqDiff, Nat.reduceBNe, Nat.ble_eq, UInt8.reduceToNat]
    refine delSpn_nil ?_
    simp -implicitDefEqProofs only [go_sem, start, startE, resVs, resV, resC, allV, retK, Nat.reduceBEq, Nat.reduceAdd, Nat.reduceMul, Nat.reduceLeDiff, Nat.reduceEqDiff, Nat.reduceBNe, Nat.ble_eq, UInt8.reduceToNat]
    refine sortSpn_nil ?_
    simp -implicitDefEqProofs only [go_sem, start, startE, resVs, resV, resC, allV, retK, Nat.reduceBEq, Nat.reduceAdd, Nat.reduceMul, Nat.reduceLeDiff, Nat.reduceEqDiff, Nat.reduceBNe, Nat.ble_eq, UInt8.reduceToNat]
    refine join_tail (F := []) (fun h => (by simp at h)) (by simp) fun s' hs' => ?_
    have e0 : srt (full []) = [] := List.eq_nil_of_length_eq_zero (by rw [hsl]; rfl)
    rw [e0] at hq
    exact ⟨s, hs', hq⟩
end Go.AB
end

section
namespace Go.AB
open Go

theorem spE_spV (x : api_Span) : (!spE x) = spV x := by unfold spE spV; rfl
theorem mem_sf {l : List api_Span} {x : api_Span} : x ∈ srt (full l) ↔ x ∈ l ∧ spV x = true := by
  unfold srt full
  rw [(List.mergeSort_perm _ leB).mem_iff, List.mem_filter, spE_spV]
/-- All ends of the spans are numbers of 64 bits. -/
def SpI (l : List api_Span) : Prop := ∀ x ∈ l, x.To ≤ 9223372036854775807
theorem sf_ok {l : List api_Span} (h : SpI l) : ∀ x ∈ srt (full l), SpOK x := fun x hx => by
  obtain ⟨h1, h2⟩ := mem_sf.1 hx
  obtain ⟨h3, h4⟩ := spV_iff.1 h2
  exact ⟨h3, h4, h x h1⟩
theorem spMem_sf {l : List api_Span} {p : Int} : spMem p (srt (full l)) ↔ inL p l := by
  constructor
  · rintro ⟨x, hx, hp⟩; exact ⟨x, (mem_sf.1 hx).1, (mem_sf.1 hx).2, hp⟩
  · rintro ⟨x, h1, h2, hp⟩; exact ⟨x, mem_sf.2 ⟨h1, h2⟩, hp⟩
theorem join0_form {l : List api_Span} (h : SpI l) : Form (joinL 0 (srt (full l))) ∧ SpI (joinL 0 (srt (full l))) ∧ ∀ p, spMem p (joinL 0 (srt (full l))) ↔ inL p l := by
  have h0 : Form ([] : List api_Span) := ⟨fun _ h => absurd h (List.not_mem_nil), List.Pairwise.nil⟩
  have := join_fold (srt (full l)) [] h0 (fun _ h => absurd h (List.not_mem_nil)) (sf_ok h) (srt_asc _) (fun O y e => by simp at e)
  refine ⟨this.1, this.2.1, fun p => ?_⟩
  refine (this.2.2 p).trans ⟨fun h => ?_, fun h => .inr (spMem_sf.2 h)⟩
  rcases h with h | h
  · obtain ⟨x, hx, _⟩ := h; cases hx
  · exact spMem_sf.1 h
/-- The spans joined at no gap. -/
def join0 (l : List api_Span) : List api_Span := joinL 0 (srt (full l))
theorem span_Join0 {l : List api_Span} (hr : l.length * 16 ≤ room) : span_Join l 0 = some (join0 l) := by
  unfold span_Join
  rw [need_pos hr]; rfl
/-- In form, so a list is known by its numbers. -/
theorem join0_eq {l : List api_Span} (h : SpI l) {o : List api_Span} (hf : Form o) (ho : ∀ p, spMem p o ↔ inL p l) : join0 l = o :=
  Form.unique (join0_form h).1 hf fun p => ((join0_form h).2.2 p).trans (ho p).symm
theorem inL_nil {p : Int} : ¬ inL p [] := fun ⟨_, hx, _⟩ => by cases hx
theorem joined_join0 {l : List api_Span} (h : SpI l) (hr : l.length * 16 ≤ room) : ref35_Joined l [] = some (join0 l) := by
  obtain ⟨o, h1, h2, h3⟩ := joined_eq l [] (by simpa using hr)
  rw [h1, join0_eq h h2 fun p => (h3 p).trans ⟨fun h => h.1, fun h => ⟨h, inL_nil⟩⟩]
theorem join0_form' {l : List api_Span} (h : Form l) (hi : SpI l) : join0 l = l := by
  refine join0_eq hi h fun p => ⟨fun ⟨x, hx, hp⟩ => ⟨x, hx, spV_iff.2 (h.1 x hx), hp⟩, fun ⟨x, hx, _, hp⟩ => ⟨x, hx, hp⟩⟩
end Go.AB
end

section
set_option maxRecDepth 4000
namespace Go.AB
open Go
/-- (*catchword/span.Set).All -/
def ir_Set_All : IC :=
 (.seq (.reg none [i1 2 (.mov true (.c (.sl true 2 0 [])))] [0])
 (.seq (.seq (.reg none [mv 3 0,
 i1 4 (.eqP false (.t 3) (.c (.nilp)))] [0, 4])
 (.cond (.t 4) (.seq (.reg none [i1 2 (.mov true (.c (.sl true 2 0 [])))] [2])
 .ret)
 .skip))
 (.seq (.reg none [mv 5 0,
 i1 6 (.nilCheck (.t 5)),
 i1 7 (.fieldAddr 0 (.t 6)),
 i1 8 (.load 1 false (.t 7)),
 i1 9 (.call 110 [(.t 8)]),
 mt 2 9] [2])
 .ret)))
def res_Set_All : List IRes := [⟨2, true, none⟩]
theorem is_Set_All : fnIs Go.Proofs.Try.prog 119 10 res_Set_All ir_Set_All = true := by kernel_rfl

/-- (*catchword/span.Set).Upto -/
def ir_Set_Upto : IC :=
 (.seq (.reg none [i1 4 (.mov false (.c (.int .i64 0)))] [0, 1])
 (.seq (.seq (.reg none [mv 7 0,
 i1 8 (.call 119 [(.t 7)]),
 i1 9 (.len 0 (.t 8)),
 i1 10 (.mov false (.c (.int .i64 0)))] [1, 8, 9, 10])
 (.block 0 (.loop [(1, false), (8, false), (9, false), (10, false)] (.seq (.reg none [i1 11 (.bin .lss (.t 10) (.t 9))] [1, 8, 9, 10, 11])
 (.seq (.cond (.t 11) .skip
 (.exit 0))
 (.seq (.block 1 (.seq (.reg none [i1 12 (.indexAddr [.int .i64 0, .int .i64 0] (.t 8) (.t 10)),
 i1 13 (.load 2 true (.t 12)),
 i1 6 (.allocL [.int .i64 0, .int .i64 0]),
 i0 (.store 2 (.t 6) (.t 13))] [1, 6, 8, 9, 10])
 (.seq (.reg none [i1 14 (.fieldAddr 0 (.t 6)),
 i1 15 (.load 1 false (.t 14)),
 mv 16 1,
 i1 17 (.bin .leq (.t 15) (.t 16)),
 mv 18 17,
 mvg 19 1 18 true,
 i1g 20 18 true (.fieldAddr 1 (.t 6)),
 i1g 21 18 true (.load 1 false (.t 20)),
 i1g 22 18 true (.bin .lss (.t 19) (.t 21)),
 i1 23 (.pick (.t 18) (.t 22) (.c (.bool false)))] [1, 6, 8, 9, 10, 23])
 (.cond (.t 23) (.seq (.reg none [i1 24 (.fieldAddr 1 (.t 6)),
 i1 25 (.load 1 false (.t 24)),
 mv 4 25] [4])
 .ret)
 .skip))))
 (.reg none [i1 26 (.bin .add (.t 10) (.c (.int .i64 1))),
 mv 10 26] [1, 8, 9, 10])))))))
 (.seq (.reg none [mv 27 1,
 mv 4 27] [4])
 .ret)))
def res_Set_Upto : List IRes := [⟨4, true, none⟩]
theorem is_Set_Upto : fnIs Go.Proofs.Try.prog 96 28 res_Set_Upto ir_Set_Upto = true := by kernel_rfl

/-- (*catchword/span.Set).Put -/
def ir_Set_Put : IC :=
 (.seq (.reg none [i1 3 (.boxL 2 (.t 1))] [0, 3])
 (.seq (.reg none [mv 4 0,
 i1 5 (.eqP true (.t 4) (.c (.nilp)))] [0, 3, 5])
 (.cond (.t 5) (.regB [] [(1, 0, mv 6 0),
 (1, 1, mv 7 0),
 (1, 2, i1 8 (.nilCheck (.t 7))),
 (1, 3, i1 9 (.fieldAddr 0 (.t 8))),
 (1, 5, i1 11 (.load 2 true (.t 3))),
 (1, 6, i1 12 (.buildSl 2 1 [.int .i64 0, .int .i64 0] [(0, 2, (.t 11))])),
 (2, 4, i1 10 (.loadD (.t 9))),
 (1, 7, i1 13 (.append 2 16 (.t 10) (.t 12))),
 (2, 8, i1 14 (.call 80 [(.t 13), (.c (.int .i64 0))])),
 (1, 9, i1 15 (.nilCheck (.t 6))),
 (1, 10, i1 16 (.fieldAddr 0 (.t 15))),
 (3, 11, i0 (.store 1 (.t 16) (.t 14)))] [])
 .skip)))
def res_Set_Put : List IRes := []
theorem is_Set_Put : fnIs Go.Proofs.Try.prog 92 17 res_Set_Put ir_Set_Put = true := by kernel_rfl

/-- (*catchword/span.Set).Missing$1 -/
def ir_Set_Missing1 : IC :=
 (.seq (.reg none [i1 4 (.load 1 false (.t 1)),
 mv 5 0,
 i1 6 (.bin .lss (.t 4) (.t 5))] [0, 1, 2, 6])
 (.cond (.t 6) (.reg none [i1 7 (.loadD (.t 2)),
 i1 8 (.load 1 false (.t 1)),
 mv 9 0,
 i1 10 (.build [.int .i64 0, .int .i64 0] [(0, 1, (.t 8)), (1, 1, (.t 9))]),
 i1 11 (.buildSl 2 1 [.int .i64 0, .int .i64 0] [(0, 2, (.t 10))]),
 i1 12 (.append 2 16 (.t 7) (.t 11)),
 i0 (.store 1 (.t 2) (.t 12))] [])
 .skip))
def res_Set_Missing1 : List IRes := []
theorem is_Set_Missing1 : fnIs Go.Proofs.Try.prog 118 13 res_Set_Missing1 ir_Set_Missing1 = true := by kernel_rfl

/-- (*catchword/span.Set).Missing -/
def ir_Set_Missing : IC :=
 (.seq (.reg none [i1 3 (.boxL 2 (.t 1)),
 i1 4 (.mov true (.c (.sl true 2 0 [])))] [0, 3])
 (.seq (.seq (.reg none [i1 10 (.load 2 true (.t 3)),
 i1 11 (.call 111 [(.t 10)])] [0, 3, 11])
 (.cond (.t 11) (.seq (.reg none [i1 4 (.mov true (.c (.sl true 2 0 [])))] [4])
 .ret)
 .skip))
 (.seq (.reg none [i1 5 (.allocS [.sl true 2 0 []])] [0, 3, 5])
 (.seq (.reg none [i1 12 (.fieldAddr 0 (.t 3)),
 i1 13 (.load 1 false (.t 12)),
 i1 6 (.allocS [.int .i64 0]),
 i0 (.store 1 (.t 6) (.t 13))] [0, 3, 5, 6])
 (.seq (.reg none [i1 14 (.makeFn 118 [] [(.t 6), (.t 5)]),
 mv 7 14] [0, 3, 5, 6, 7])
 (.seq (.seq (.reg none [mv 15 0,
 i1 16 (.call 119 [(.t 15)]),
 i1 17 (.len 0 (.t 16)),
 i1 18 (.mov false (.c (.int .i64 0)))] [3, 5, 6, 7, 16, 17, 18])
 (.block 0 (.loop [(3, false), (5, false), (6, false), (7, false), (16, false), (17, false), (18, false)] (.seq (.reg none [i1 19 (.bin .lss (.t 18) (.t 17))] [3, 5, 6, 7, 16, 17, 18, 19])
 (.seq (.cond (.t 19) .skip
 (.exit 0))
 (.seq (.block 1 (.seq (.reg none [i1 20 (.indexAddr [.int .i64 0, .int .i64 0] (.t 16) (.t 18)),
 i1 21 (.load 2 true (.t 20)),
 i1 9 (.allocL [.int .i64 0, .int .i64 0]),
 i0 (.store 2 (.t 9) (.t 21))] [3, 5, 6, 7, 9, 16, 17, 18])
 (.seq (.reg none [mv 22 7,
 i1 23 (.fieldAddr 0 (.t 9)),
 i1 24 (.load 1 false (.t 23)),
 i1 25 (.fieldAddr 1 (.t 3)),
 i1 26 (.load 1 false (.t 25)),
 i1 27 (.minmax false [(.t 24), (.t 26)]),
 i1 28 (.callv (.t 22) [(.t 27)])] [3, 5, 6, 7, 9, 16, 17, 18])
 (.reg none [i1 29 (.load 1 false (.t 6)),
 i1 30 (.fieldAddr 1 (.t 9)),
 i1 31 (.load 1 false (.t 30)),
 i1 32 (.fieldAddr 1 (.t 3)),
 i1 33 (.load 1 false (.t 32)),
 i1 34 (.minmax false [(.t 31), (.t 33)]),
 i1 35 (.minmax true [(.t 29), (.t 34)]),
 i0 (.store 1 (.t 6) (.t 35))] [3, 5, 6, 7, 16, 17, 18]))))
 (.reg none [i1 36 (.bin .add (.t 18) (.c (.int .i64 1))),
 mv 18 36] [3, 5, 6, 7, 16, 17, 18])))))))
 (.seq (.reg none [mv 37 7,
 i1 38 (.fieldAddr 1 (.t 3)),
 i1 39 (.load 1 false (.t 38)),
 i1 40 (.callv (.t 37) [(.t 39)])] [5])
 (.seq (.reg none [i1 41 (.load 1 false (.t 5)),
 mt 4 41] [4])
 .ret))))))))
def res_Set_Missing : List IRes := [⟨4, false, none⟩]
theorem is_Set_Missing : fnIs Go.Proofs.Try.prog 90 42 res_Set_Missing ir_Set_Missing = true := by kernel_rfl


abbrev slv (l : List api_Span) : AV := .sl true 2 l.length (flat l)
abbrev slw (l : List api_Span) : AV := .sl false 2 l.length (flat l)
/-- An object has a row of spans in a cell. -/
def SetAt (s : Store) (b off : Nat) (cs : List AV) (l : List api_Span) : Prop := s b = some (.cells cs) ∧ cs[off]? = some (slv l)
theorem sub_at {cs : List AV} {off : Nat} {a : AV} (h : cs[off]? = some a) : off + 1 ≤ cs.length ∧ sub cs off 1 = [a] := by
  obtain ⟨h1, h2⟩ := List.getElem?_eq_some_iff.1 h
  refine ⟨h1, ?_⟩
  unfold sub
  rw [List.drop_eq_getElem_cons h1, h2]; rfl
@[go_sem] theorem brTake_r (s : Store) (C : AV → Store → Prop) (b off : Nat) : brTake s C (.ref b off) = brTakeO b off s C (s b) := rfl
@[go_sem] theorem brTakeO_cells (b off : Nat) (s : Store) (C : AV → Store → Prop) (cs : List AV) : brTakeO b off s C (some (.cells cs)) = takeC off cs fun cs' a => C a (s.set b (.cells cs')) := rfl
theorem takeC_at {cs : List AV} {off : Nat} {l : List api_Span} {k : List AV → AV → Prop} (h : cs[off]? = some (slv l)) : takeC off cs k = k (setAt cs off [slw l]) (slv l) := by
  unfold takeC; rw [h]
theorem takeC_at0 {cs : List AV} {off : Nat} {l : List api_Span} {k : List AV → AV → Prop} (h : cs[off]? = some (slv l)) : takeC (off + 0) cs k = k (setAt cs off [slw l]) (slv l) := takeC_at h
theorem setAt_twice {cs : List AV} {off : Nat} {x y : AV} (h : off < cs.length) : setAt (setAt cs off [x]) off [y] = setAt cs off [y] := by
  have hl : ∀ z, off < (setAt cs off [z]).length := fun z => by rw [setAt_len _ _ _ (show off + [z].length ≤ cs.length from h)]; exact h
  apply List.ext_getElem?
  intro j
  rw [setAt_one _ _ _ (hl x), setAt_one _ _ _ h, setAt_one _ _ _ h]
  by_cases e : j = off <;> simp [e]
theorem ldv_at {cs : List AV} {off : Nat} {l : List api_Span} (h : cs[off]? = some (slv l)) : loadV false (bif decide (off + 0 + 1 ≤ cs.length) then some (views (sub cs (off + 0) 1)) else none) = .tot (slw l) := by
  obtain ⟨h1, h2⟩ := sub_at h
  show loadV false (bif decide (off + 1 ≤ cs.length) then some (views (sub cs off 1)) else none) = _
  rw [h2, decide_eq_true h1]; rfl
theorem cloneSpn_fn {o : Bool} {l : List api_Span} {s : Store} {Q : List AV → Store → Prop} (hr : l.length * 16 ≤ room) (hq : Q [slv l] s) : FN Go.Proofs.Try.prog 110 [.sl o 2 l.length (flat l)] s Q := by
  refine FN.row_sl (s2 := s) (flat_len l) (flat_views l) hq (FN.mono (cloneSpn_arr hr) fun rs s' h => ?_)
  rcases h with ⟨b, cap, sp, h1, h2, h3, h4, h5, h6, h7⟩ | ⟨h1, h2, h3⟩
  · exact .inl ⟨b, cap, sp, h1, by rw [h7]; exact set_at, h3, h4, h5, by rw [h7, del_set h2]; exact Sub.refl s⟩
  · subst h1; exact .inr ⟨rfl, rfl, by rw [h2]; exact Sub.refl s, h3⟩
def Set_All (l : List api_Span) : Option (List api_Span) := need (l.length * 16 ≤ room) (some l)
theorem Set_All_fn {s : Store} {b off : Nat} {cs : List AV} {l : List api_Span} {Q : List AV → Store → Prop} (hb : SetAt s b off cs l) : ok (Set_All l) (fun r => Q [slv r] s) → FN Go.Proofs.Try.prog 119 [.ref b off] s Q := by
  intro hh
  refine FN.weak (FN.of (draw_ok mix) is_Set_All rfl (Nat.le_of_ble_eq_true rfl) ?_)
  unfold Set_All at hh
  revert hh
  rw [ir_Set_All, res_Set_All]
  simp -implicitDefEqProofs only [go_sem, start, startE, resVs, resV, resC, allV, retK, Nat.reduceBEq, Nat.reduceAdd, Nat.reduceMul, Nat.reduceLeDiff, Nat.reduceEqDiff, Nat.reduceBNe, Nat.ble_eq, UInt8.reduceToNat, hb.1]
  rintro ⟨hr, hq⟩
  refine ⟨fun h => h.elim, fun _ => ?_⟩
  rw [ldv_at hb.2]
  simp -implicitDefEqProofs only [go_sem, start, startE, resVs, resV, resC, allV, retK, Nat.reduceBEq, Nat.reduceAdd, Nat.reduceMul, Nat.reduceLeDiff, Nat.reduceEqDiff, Nat.reduceBNe, Nat.ble_eq, UInt8.reduceToNat]
  refine cloneSpn_fn hr ?_
  simp -implicitDefEqProofs only [go_sem, start, startE, resVs, resV, resC, allV, retK, Nat.reduceBEq, Nat.reduceAdd, Nat.reduceMul, Nat.reduceLeDiff, Nat.reduceEqDiff, Nat.reduceBNe, Nat.ble_eq, UInt8.reduceToNat]
  exact ⟨s, Sub.refl s, hq⟩
theorem Set_All_nil {s : Store} {Q : List AV → Store → Prop} (hq : Q [slv []] s) : FN Go.Proofs.Try.prog 119 [.nilp] s Q := by
  refine FN.weak (FN.of (draw_ok mix) is_Set_All rfl (Nat.le_of_ble_eq_true rfl) ?_)
  rw [ir_Set_All, res_Set_All]
  simp -implicitDefEqProofs only [go_sem, start, startE, resVs, resV, resC, allV, retK, Nat.reduceBEq, Nat.reduceAdd, Nat.reduceMul, Nat.reduceLeDiff, Nat.reduceEqDiff, Nat.reduceBNe, Nat.ble_eq, UInt8.reduceToNat]
  exact ⟨fun _ => ⟨s, Sub.refl s, hq⟩, fun h => by cases h⟩
def uptoB (l : List api_Span) (at_ : Int) (k : Int) : Option (Int ⊕ Int) :=
  if decide (k < (l.length : Int)) then
    need (0 ≤ k ∧ k < l.length) <|
    if (decide ((ix l k).From ≤ at_)) && (decide (at_ < (ix l k).To)) then some (.inr (ix l k).To) else some (.inl (w64 (k + 1)))
  else some (.inr at_)
def Set_Upto (l : List api_Span) (at_ : Int) : Option Int := bnd (Set_All l) fun l => iter (uptoB l at_) 0
theorem Set_Upto_fn {s : Store} {b off : Nat} {cs : List AV} {l : List api_Span} {at_ : Int} {Q : List AV → Store → Prop} (hb : SetAt s b off cs l) : ok (Set_Upto l at_) (fun r => Q [.int .i64 r] s) → FN Go.Proofs.Try.prog 96 [.ref b off, .int .i64 at_] s Q := by
  intro hh
  refine FN.weak (FN.of (draw_ok mix) is_Set_Upto rfl (Nat.le_of_ble_eq_true rfl) ?_)
  revert hh
  rw [ir_Set_Upto, res_Set_Upto, Set_Upto]
  simp -implicitDefEqProofs only [go_sem, start, startE, resVs, resV, resC, allV, retK, Nat.reduceBEq, Nat.reduceAdd, Nat.reduceMul, Nat.reduceLeDiff, Nat.reduceEqDiff, Nat.reduceBNe, Nat.ble_eq, UInt8.reduceToNat]
  intro hh
  refine Set_All_fn hb ?_
  refine ok_mono hh fun l' => ?_
  simp -implicitDefEqProofs only [go_sem, start, startE, resVs, resV, resC, allV, retK, Nat.reduceBEq, Nat.reduceAdd, Nat.reduceMul, Nat.reduceLeDiff, Nat.reduceEqDiff, Nat.reduceBNe, Nat.ble_eq, UInt8.reduceToNat]
  refine iter_to (fun k => ⟨[(1, .int .i64 at_), (8, slv l'), (9, .int .i64 (l'.length : Nat)), (10, .int .i64 k)], [], s⟩) rfl ?_
  intro J k
  rw [uptoB]
  simp -implicitDefEqProofs only [go_sem, start, startE, resVs, resV, resC, allV, retK, Nat.reduceBEq, Nat.reduceAdd, Nat.reduceMul, Nat.reduceLeDiff, Nat.reduceEqDiff, Nat.reduceBNe, Nat.ble_eq, UInt8.reduceToNat]
  rintro ⟨h1, h2⟩
  exact ⟨fun hk => ⟨(h1 hk).1, fun hc => ⟨s, Sub.refl s, (h1 hk).2.1 hc⟩, (h1 hk).2.2⟩, fun hk => ⟨s, Sub.refl s, h2 hk⟩⟩
def Set_Put (l : List api_Span) (x : api_Span) : Option (List api_Span) := need ((l.length + 1) * 16 ≤ room) <| span_Join (l ++ [x]) 0
theorem Set_Put_fn {s : Store} {b off : Nat} {cs : List AV} {l : List api_Span} {x : api_Span} {Q : List AV → Store → Prop} (hb : SetAt s b off cs l) : ok (Set_Put l x) (fun r => Q [] (s.set b (.cells (setAt cs off [slv r])))) → FN Go.Proofs.Try.prog 92 [.ref b off, .agg [.int .i64 x.From, .int .i64 x.To]] s Q := by
  intro hh
  refine FN.weak (FN.of (draw_ok mix) is_Set_Put rfl (Nat.le_of_ble_eq_true rfl) ?_)
  revert hh
  rw [ir_Set_Put, res_Set_Put, Set_Put]
  simp -implicitDefEqProofs only [go_sem, start, startE, resVs, resV, resC, allV, retK, Nat.reduceBEq, Nat.reduceAdd, Nat.reduceMul, Nat.reduceLeDiff, Nat.reduceEqDiff, Nat.reduceBNe, Nat.ble_eq, UInt8.reduceToNat, hb.1]
  rintro ⟨hr, hh⟩
  refine ⟨fun _ => ?_, fun h => by cases h⟩
  rw [takeC_at0 hb.2]
  simp -implicitDefEqProofs only [go_sem, start, startE, resVs, resV, resC, allV, retK, Nat.reduceBEq, Nat.reduceAdd, Nat.reduceMul, Nat.reduceLeDiff, Nat.reduceEqDiff, Nat.reduceBNe, Nat.ble_eq, UInt8.reduceToNat, hb.1]
  refine ⟨hr, ?_⟩
  have e1 : (l ++ [x]).length = l.length + 1 := by simp
  have e2 : flat (l ++ [x]) = flat l ++ [AV.int IntKind.i64 x.From, AV.int IntKind.i64 x.To] := by rw [flat_append]; rfl
  have hj := fun Q => span_Join_fn (l := l ++ [x]) (gap := 0) (s := s.set b (SO.cells (setAt cs off [slw l]))) (Q := Q)
  rw [e1, e2] at hj
  refine hj _ (ok_mono hh fun r hq => ?_)
  simp -implicitDefEqProofs only [go_sem, start, startE, resVs, resV, resC, allV, retK, Nat.reduceBEq, Nat.reduceAdd, Nat.reduceMul, Nat.reduceLeDiff, Nat.reduceEqDiff, Nat.reduceBNe, Nat.ble_eq, UInt8.reduceToNat, set_at]
  have hlt : off < cs.length := (List.getElem?_eq_some_iff.1 hb.2).1
  rw [setAt_len _ _ _ (show off + [slw l].length ≤ cs.length from hlt)]
  refine ⟨hlt, _, Sub.refl _, ?_⟩
  rw [Nat.add_zero, setAt_twice hlt]
  exact hq
theorem Set_Put_nil {s : Store} {x : api_Span} {Q : List AV → Store → Prop} (hq : Q [] s) : FN Go.Proofs.Try.prog 92 [.nilp, .agg [.int .i64 x.From, .int .i64 x.To]] s Q := by
  refine FN.weak (FN.of (draw_ok mix) is_Set_Put rfl (Nat.le_of_ble_eq_true rfl) ?_)
  rw [ir_Set_Put, res_Set_Put]
  simp -implicitDefEqProofs only [go_sem, start, startE, resVs, resV, resC, allV, retK, Nat.reduceBEq, Nat.reduceAdd, Nat.reduceMul, Nat.reduceLeDiff, Nat.reduceEqDiff, Nat.reduceBNe, Nat.ble_eq, UInt8.reduceToNat]
  refine ⟨fun h => (by cases h), fun _ => ⟨s, Sub.refl s, hq⟩⟩
def missPut (at_ : Int) (out : List api_Span) (to_ : Int) : Option (List api_Span) :=
  if decide (at_ < to_) then need ((out.length + 1) * 16 ≤ room) <| some (out ++ [⟨at_, to_⟩]) else some out
theorem Set_Missing1_fn {s : Store} {a o : Nat} {at_ to_ : Int} {out : List api_Span} {Q : List AV → Store → Prop} (ha : s a = some (.cells [.int .i64 at_])) (ho : s o = some (.cells [slv out])) : ok (missPut at_ out to_) (fun r => Q [] (s.set o (.cells [slv r]))) → FN Go.Proofs.Try.prog 118 [.int .i64 to_, .ref a 0, .ref o 0] s Q := by
  intro hh
  refine FN.weak (FN.of (draw_ok mix) is_Set_Missing1 rfl (Nat.le_of_ble_eq_true rfl) ?_)
  revert hh
  rw [ir_Set_Missing1, res_Set_Missing1, missPut]
  simp -implicitDefEqProofs only [go_sem, start, startE, resVs, resV, resC, allV, retK, Nat.reduceBEq, Nat.reduceAdd, Nat.reduceMul, Nat.reduceLeDiff, Nat.reduceEqDiff, Nat.reduceBNe, Nat.ble_eq, UInt8.reduceToNat, ha, ho]
  rintro ⟨h1, h2⟩
  have hne : a ≠ o := by rintro rfl; rw [ha] at ho; simp at ho
  refine ⟨fun hc => ?_, fun hc => ⟨_, Sub.refl s, by have := h2 hc; rwa [set_eq' ho] at this⟩⟩
  simp -implicitDefEqProofs only [go_sem, start, startE, resVs, resV, resC, allV, retK, Nat.reduceBEq, Nat.reduceAdd, Nat.reduceMul, Nat.reduceLeDiff, Nat.reduceEqDiff, Nat.reduceBNe, Nat.ble_eq, UInt8.reduceToNat, set_ne hne, ha]
  have e : slv (out ++ [⟨at_, to_⟩]) = .sl true 2 (out.length + 1) (flat out ++ [AV.int IntKind.i64 at_, AV.int IntKind.i64 to_]) := by
    unfold slv; rw [flat_append, List.length_append]; rfl
  refine ⟨(h1 hc).1, _, Sub.refl _, ?_⟩
  rw [← e]; exact (h1 hc).2
theorem SetAt.set {s : Store} {b off c : Nat} {cs : List AV} {l : List api_Span} {x : SO} (h : SetAt s b off cs l) (hn : s c = none) : SetAt (s.set c x) b off cs l := by
  refine ⟨?_, h.2⟩
  rw [set_ne (fun e => by rw [← e, h.1] at hn; cases hn)]; exact h.1
def missB (x : api_Span) (l : List api_Span) : (List api_Span × Int × Int) → Option ((List api_Span × Int × Int) ⊕ (List api_Span × Int)) := fun (out, at_, k) =>
  if decide (k < (l.length : Int)) then
    need (0 ≤ k ∧ k < l.length) <|
    bnd (missPut at_ out (min (ix l k).From x.To)) fun out =>
    some (.inl (out, max at_ (min (ix l k).To x.To), w64 (k + 1)))
  else some (.inr (out, at_))
def Set_Missing (l : List api_Span) (x : api_Span) : Option (List api_Span) :=
  bnd (span_empty x) fun e =>
  if e then some [] else
    bnd (Set_All l) fun l =>
    bnd (iter (missB x l) ([], x.From, 0)) fun (out, at_) =>
    missPut at_ out x.To
theorem Set_Missing_fn {s : Store} {b off : Nat} {cs : List AV} {l : List api_Span} {x : api_Span} {Q : List AV → Store → Prop} (hb : SetAt s b off cs l) : ok (Set_Missing l x) (fun r => Q [slw r] s) → FN Go.Proofs.Try.prog 90 [.ref b off, .agg [.int .i64 x.From, .int .i64 x.To]] s Q := by
  intro hh
  refine FN.weak (FN.of (draw_ok mix) is_Set_Missing rfl (Nat.le_of_ble_eq_true rfl) ?_)
  revert hh
  rw [ir_Set_Missing, res_Set_Missing, Set_Missing]
  simp -implicitDefEqProofs only [go_sem, start, startE, resVs, resV, resC, allV, retK, Nat.reduceBEq, Nat.reduceAdd, Nat.reduceMul, Nat.reduceLeDiff, Nat.reduceEqDiff, Nat.reduceBNe, Nat.ble_eq, UInt8.reduceToNat]
  refine call_to (fun _ h => span_empty_fe h) fun e => ?_
  simp -implicitDefEqProofs only [go_sem, start, startE, resVs, resV, resC, allV, retK, Nat.reduceBEq, Nat.reduceAdd, Nat.reduceMul, Nat.reduceLeDiff, Nat.reduceEqDiff, Nat.reduceBNe, Nat.ble_eq, UInt8.reduceToNat]
  rintro ⟨h1, h2⟩
  refine ⟨fun he => ⟨s, Sub.refl s, h1 he⟩, fun he o ho a ha => ?_⟩
  have hh := h2 he
  refine Set_All_fn ((hb.set ho).set ha) (ok_mono hh fun l' hh => ?_)
  simp -implicitDefEqProofs only [go_sem, start, startE, resVs, resV, resC, allV, retK, Nat.reduceBEq, Nat.reduceAdd, Nat.reduceMul, Nat.reduceLeDiff, Nat.reduceEqDiff, Nat.reduceBNe, Nat.ble_eq, UInt8.reduceToNat]
  revert hh
  refine iter_to (fun st => ⟨[(3, .loc [.int .i64 x.From, .int .i64 x.To]), (5, .ref o 0), (6, .ref a 0), (7, .fn 118 [] [.ref a 0, .ref o 0]), (16, slv l'), (17, .int .i64 (l'.length : Nat)), (18, .int .i64 st.2.2)], [], (s.set o (.cells [slv st.1])).set a (.cells [.int .i64 st.2.1])⟩) rfl ?_
  rintro J ⟨out, at_, k⟩
  have hne : o ≠ a := by rintro rfl; rw [set_same] at ha; cases ha
  rw [missB]
  simp -implicitDefEqProofs only [go_sem, start, startE, resVs, resV, resC, allV, retK, Nat.reduceBEq, Nat.reduceAdd, Nat.reduceMul, Nat.reduceLeDiff, Nat.reduceEqDiff, Nat.reduceBNe, Nat.ble_eq, UInt8.reduceToNat]
  rintro ⟨h1, h2⟩
  have st : ∀ X Y Z, ((s.set o X).set a Y).set o Z = (s.set o Z).set a Y := fun X Y Z => by rw [set_comm hne, set_set]
  have go' : ∀ X Y, ((s.set o X).set a Y) o = some X := fun X Y => by rw [set_ne hne, set_same]
  have sub' : ∀ X Y, Sub s ((s.set o X).set a Y) := fun X Y => ((Sub.refl s).set ho).set (by rw [set_none] at ha ⊢; exact ha)
  refine ⟨fun hc => ⟨(h1 hc).1, rfl, ?_⟩, fun hc => ⟨rfl, ?_⟩⟩
  · refine Set_Missing1_fn (at_ := at_) (set_same ..) (go' ..) (ok_mono (h1 hc).2 fun r hr => ?_)
    rw [st]
    simp -implicitDefEqProofs only [go_sem, start, startE, resVs, resV, resC, allV, retK, Nat.reduceBEq, Nat.reduceAdd, Nat.reduceMul, Nat.reduceLeDiff, Nat.reduceEqDiff, Nat.reduceBNe, Nat.ble_eq, UInt8.reduceToNat, set_same, set_set]
    exact hr
  · refine Set_Missing1_fn (at_ := at_) (set_same ..) (go' ..) (ok_mono (h2 hc) fun r hr => ?_)
    rw [st]
    simp -implicitDefEqProofs only [go_sem, start, startE, resVs, resV, resC, allV, retK, Nat.reduceBEq, Nat.reduceAdd, Nat.reduceMul, Nat.reduceLeDiff, Nat.reduceEqDiff, Nat.reduceBNe, Nat.ble_eq, UInt8.reduceToNat, go']
    exact ⟨s, sub' _ _, hr⟩

end Go.AB
end

section
set_option maxRecDepth 4000
namespace Go.AB
open Go
/-- (*catchword/source.Source).is -/
def ir_Source_is : IC :=
 (.seq (.reg none [i1 2 (.mov false (.c (.bool false)))] [0])
 (.seq (.reg none [mv 3 0,
 i1 4 (.eqP true (.t 3) (.c (.nilp))),
 mv 5 4,
 mvg 6 0 5 true,
 i1g 7 5 true (.nilCheck (.t 6)),
 i1g 8 5 true (.fieldAddr 0 (.t 7)),
 i1g 9 5 true (.load 1 false (.t 8)),
 i1 10 (.pick (.t 5) (.t 9) (.c (.bool false))),
 mv 2 10] [2])
 .ret))
def res_Source_is : List IRes := [⟨2, true, none⟩]
theorem is_Source_is : fnIs Go.Proofs.Try.prog 89 11 res_Source_is ir_Source_is = true := by kernel_rfl

/-- (*catchword/source.Source).Total -/
def ir_Source_Total : IC :=
 (.seq (.reg none [i1 2 (.mov false (.c (.int .i64 0)))] [0])
 (.seq (.seq (.reg none [mv 3 0,
 i1 4 (.call 89 [(.t 3)]),
 i1 5 (.un .not (.t 4))] [0, 5])
 (.cond (.t 5) (.seq (.reg none [i1 2 (.mov false (.c (.int .i64 0)))] [2])
 .ret)
 .skip))
 (.seq (.reg none [mv 6 0,
 i1 7 (.nilCheck (.t 6)),
 i1 8 (.fieldAddr 1 (.t 7)),
 i1 9 (.load 1 false (.t 8)),
 mv 2 9] [2])
 .ret)))
def res_Source_Total : List IRes := [⟨2, true, none⟩]
theorem is_Source_Total : fnIs Go.Proofs.Try.prog 95 10 res_Source_Total ir_Source_Total = true := by kernel_rfl

/-- (*catchword/source.Source).First -/
def ir_Source_First : IC :=
 (.seq (.reg none [i1 4 (.mov false (.c (.int .i64 0)))] [0, 1])
 (.seq (.seq (.reg none [mv 5 0,
 i1 6 (.call 89 [(.t 5)]),
 i1 7 (.un .not (.t 6))] [0, 1, 7])
 (.cond (.t 7) (.seq (.reg none [i1 4 (.mov false (.c (.int .i64 0)))] [4])
 .ret)
 .skip))
 (.seq (.reg none [mv 8 1,
 i1 9 (.minmax true [(.c (.int .i64 0)), (.t 8)]),
 mv 1 9] [0, 1])
 (.seq (.reg (some 11) [mv 10 0,
 i1 11 (.nilCheck (.t 10)),
 i1 12 (.fieldAddr 1 (.t 11)),
 i1 13 (.load 1 false (.t 12)),
 mv 14 0,
 i1 15 (.nilCheck (.t 14)),
 i1 16 (.fieldAddr 2 (.t 15)),
 mv 17 1,
 i1 18 (.call 96 [(.t 16), (.t 17)]),
 i1 19 (.minmax false [(.t 13), (.t 18)]),
 mv 4 19] [4])
 .ret))))
def res_Source_First : List IRes := [⟨4, true, none⟩]
theorem is_Source_First : fnIs Go.Proofs.Try.prog 50 20 res_Source_First ir_Source_First = true := by kernel_rfl

/-- (*catchword/source.Source).Known -/
def ir_Source_Known : IC :=
 (.seq (.reg none [i1 2 (.mov true (.c (.sl true 2 0 [])))] [0])
 (.seq (.seq (.reg none [mv 3 0,
 i1 4 (.call 89 [(.t 3)]),
 i1 5 (.un .not (.t 4))] [0, 5])
 (.cond (.t 5) (.seq (.reg none [i1 2 (.mov true (.c (.sl true 2 0 [])))] [2])
 .ret)
 .skip))
 (.seq (.reg none [mv 6 0,
 i1 7 (.nilCheck (.t 6)),
 i1 8 (.fieldAddr 2 (.t 7)),
 i1 9 (.call 119 [(.t 8)]),
 mt 2 9] [2])
 .ret)))
def res_Source_Known : List IRes := [⟨2, true, none⟩]
theorem is_Source_Known : fnIs Go.Proofs.Try.prog 93 10 res_Source_Known ir_Source_Known = true := by kernel_rfl

/-- catchword/source.New -/
def ir_source_New : IC :=
 (.seq (.reg none [i1 2 (.mov false (.c (.nilp))),
 i1 3 (.mov false (.c (.int .i64 0)))] [0])
 (.seq (.seq (.reg none [mv 4 0,
 i1 5 (.bin .lss (.t 4) (.c (.int .i64 0))),
 mv 6 5,
 mvg 7 0 6 false,
 i1g 8 6 false (.bin .gtr (.t 7) (.c (.int .i64 2147483647))),
 i1 9 (.pick (.t 6) (.c (.bool true)) (.t 8))] [0, 9])
 (.cond (.t 9) (.seq (.reg none [i1 2 (.mov false (.c (.nilp))),
 i1 3 (.mov false (.c (.int .i64 5)))] [2, 3])
 .ret)
 .skip))
 (.seq (.reg none [mv 10 0,
 i1 11 (.makeMap),
 i1 12 (.build [.bool false, .int .i64 0, .arr 0 0 0 0, .nilm] [(0, 1, (.c (.bool true))), (1, 1, (.t 10)), (3, 1, (.t 11))]),
 i1 13 (.boxN 2 4 (.t 12)),
 mv 2 13,
 i1 3 (.mov false (.c (.int .i64 0)))] [2, 3])
 .ret)))
def res_source_New : List IRes := [⟨2, true, none⟩, ⟨3, true, none⟩]
theorem is_source_New : fnIs Go.Proofs.Try.prog 46 14 res_source_New ir_source_New = true := by kernel_rfl

/-- catchword/source.Whole -/
def ir_source_Whole : IC :=
 (.seq (.reg none [i1 2 (.mov false (.c (.nilp)))] [0])
 (.seq (.reg none [mv 6 0,
 i1 7 (.len 0 (.t 6)),
 i1 8 (.call 46 [(.t 7)]),
 i1 5 (.movT (.t 8)),
 i1 9 (.extract (.t 5) 0),
 i1 10 (.extract (.t 5) 1),
 mv 3 9,
 mv 4 10] [0, 3, 4])
 (.seq (.seq (.reg none [mv 11 4,
 i1 12 (.bin .neq (.t 11) (.c (.int .i64 0)))] [0, 3, 12])
 (.cond (.t 12) (.seq (.reg none [i1 2 (.mov false (.c (.nilp)))] [2])
 .ret)
 .skip))
 (.seq (.reg none [mv 13 3,
 mt 14 0,
 i1 15 (.call 47 [(.t 13), (.c (.int .i64 0)), (.t 14)])] [3])
 (.seq (.reg none [mv 16 3,
 mv 2 16] [2])
 .ret)))))
def res_source_Whole : List IRes := [⟨2, true, none⟩]
theorem is_source_Whole : fnIs Go.Proofs.Try.prog 82 17 res_source_Whole ir_source_Whole = true := by kernel_rfl

/-- (*catchword/source.Source).write -/
def ir_Source_write : IC :=
 (.block 0 (.loop [(0, false), (1, false), (2, false)] (.seq (.seq (.reg none [mv 11 2,
 i1 12 (.len 0 (.t 11)),
 i1 13 (.bin .gtr (.t 12) (.c (.int .i64 0)))] [0, 1, 2, 13])
 (.cond (.t 13) .skip
 (.exit 0)))
 (.block 1 (.seq (.reg none [mv 14 1,
 i1 15 (.bin .quo (.t 14) (.c (.int .i64 4096))),
 mv 16 1,
 i1 17 (.bin .rem (.t 16) (.c (.int .i64 4096))),
 mv 6 15,
 mv 7 17] [0, 1, 2, 6, 7])
 (.seq (.reg none [mv 19 0,
 i1 20 (.nilCheck (.t 19)),
 i1 21 (.fieldAddr 3 (.t 20)),
 i1 22 (.load 1 false (.t 21)),
 mv 23 6,
 i1 24 (.lookup (.int .i64) (.sl false 1 0 []) true (.t 22) (.t 23)),
 i1 18 (.movT (.t 24)),
 i1 25 (.extract (.t 18) 0),
 i1 26 (.extract (.t 18) 1),
 mt 8 25,
 mv 9 26] [0, 1, 2, 6, 7, 8, 9])
 (.seq (.seq (.reg none [mv 27 9,
 i1 28 (.un .not (.t 27))] [0, 1, 2, 6, 7, 8, 28])
 (.cond (.t 28) (.seq (.reg none [i1 29 (.makeSl 1 1 [.int .u8 0] (.c (.int .i64 4096)) (.c (.int .i64 4096))),
 mt 8 29] [0, 1, 2, 6, 7, 8])
 (.reg none [mv 30 0,
 i1 31 (.nilCheck (.t 30)),
 i1 32 (.fieldAddr 3 (.t 31)),
 i1 33 (.load 1 false (.t 32)),
 mv 34 6,
 mv 35 8,
 i0 (.mapUpdate (.int .i64) (.t 33) (.t 34) (.t 35))] [0, 1, 2, 7, 8]))
 .skip))
 (.seq (.reg none [mt 36 8,
 mv 37 7,
 i1 38 (.slice 1 (.t 36) (some (.t 37)) none none),
 mv 39 2,
 i1 40 (.copyA 1 (.t 38) (.t 39)),
 mv 10 40] [0, 1, 2, 10])
 (.reg (some 8) [mv 41 1,
 mv 42 10,
 i1 43 (.bin .add (.t 41) (.t 42)),
 mv 44 2,
 mv 45 10,
 i1 46 (.slice 1 (.t 44) (some (.t 45)) none none),
 mv 1 43,
 mv 2 46] [0, 1, 2])))))))))
def res_Source_write : List IRes := []
theorem is_Source_write : fnIs Go.Proofs.Try.prog 91 47 res_Source_write ir_Source_write = true := by kernel_rfl

/-- (*catchword/source.Source).Put -/
def ir_Source_Put : IC :=
 (.seq (.reg none [i1 6 (.mov false (.c (.int .i64 0)))] [0, 1, 2])
 (.seq (.block 0 (.seq (.reg none [mv 11 0,
 i1 12 (.call 89 [(.t 11)]),
 i1 13 (.un .not (.t 12)),
 mv 10 13] [0, 1, 2, 10])
 (.cond (.t 10) (.seq (.reg none [i1 6 (.mov false (.c (.int .i64 1)))] [6])
 .ret)
 (.seq (.reg none [mv 15 1,
 i1 16 (.bin .lss (.t 15) (.c (.int .i64 0))),
 mv 17 16,
 mvg 18 1 17 false,
 mvg 19 0 17 false,
 i1g 20 17 false (.nilCheck (.t 19)),
 i1g 21 17 false (.fieldAddr 1 (.t 20)),
 i1g 22 17 false (.load 1 false (.t 21)),
 i1g 23 17 false (.bin .gtr (.t 18) (.t 22)),
 i1 24 (.pick (.t 17) (.c (.bool true)) (.t 23)),
 mv 14 24] [0, 1, 2, 14])
 (.cond (.t 14) (.seq (.reg none [i1 6 (.mov false (.c (.int .i64 2)))] [6])
 .ret)
 (.seq (.reg none [mv 26 2,
 i1 27 (.len 0 (.t 26)),
 mv 28 0,
 i1 29 (.nilCheck (.t 28)),
 i1 30 (.fieldAddr 1 (.t 29)),
 i1 31 (.load 1 false (.t 30)),
 mv 32 1,
 i1 33 (.bin .sub (.t 31) (.t 32)),
 i1 34 (.bin .gtr (.t 27) (.t 33)),
 mv 25 34] [0, 1, 2, 25])
 (.cond (.t 25) (.seq (.reg none [i1 6 (.mov false (.c (.int .i64 5)))] [6])
 .ret)
 .skip)))))))
 (.seq (.reg none [mv 35 1,
 mv 36 1,
 mv 37 2,
 i1 38 (.len 0 (.t 37)),
 i1 39 (.bin .add (.t 36) (.t 38)),
 i1 40 (.build [.int .i64 0, .int .i64 0] [(0, 1, (.t 35)), (1, 1, (.t 39))]),
 i1 7 (.allocL [.int .i64 0, .int .i64 0]),
 i0 (.store 2 (.t 7) (.t 40))] [0, 1, 2, 7])
 (.seq (.seq (.reg (some 7) [mv 41 0,
 i1 42 (.nilCheck (.t 41)),
 i1 43 (.fieldAddr 2 (.t 42)),
 i1 44 (.load 2 true (.t 7)),
 i1 45 (.call 90 [(.t 43), (.t 44)]),
 i1 46 (.len 0 (.t 45)),
 i1 47 (.mov false (.c (.int .i64 0)))] [0, 1, 2, 7, 45, 46, 47])
 (.block 1 (.loop [(0, false), (1, false), (2, false), (7, false), (45, false), (46, false), (47, false)] (.seq (.reg none [i1 48 (.bin .lss (.t 47) (.t 46))] [0, 1, 2, 7, 45, 46, 47, 48])
 (.seq (.cond (.t 48) .skip
 (.exit 1))
 (.seq (.block 2 (.seq (.reg none [i1 49 (.indexAddr [.int .i64 0, .int .i64 0] (.t 45) (.t 47)),
 i1 50 (.load 2 true (.t 49)),
 i1 9 (.allocL [.int .i64 0, .int .i64 0]),
 i0 (.store 2 (.t 9) (.t 50))] [0, 1, 2, 7, 9, 45, 46, 47])
 (.reg (some 13) [mv 51 0,
 i1 52 (.fieldAddr 0 (.t 9)),
 i1 53 (.load 1 false (.t 52)),
 mv 54 2,
 i1 55 (.fieldAddr 0 (.t 9)),
 i1 56 (.load 1 false (.t 55)),
 mv 57 1,
 i1 58 (.bin .sub (.t 56) (.t 57)),
 i1 59 (.fieldAddr 1 (.t 9)),
 i1 60 (.load 1 false (.t 59)),
 mv 61 1,
 i1 62 (.bin .sub (.t 60) (.t 61)),
 i1 63 (.slice 1 (.t 54) (some (.t 58)) (some (.t 62)) none),
 i1 64 (.call 91 [(.t 51), (.t 53), (.t 63)])] [0, 1, 2, 7, 45, 46, 47])))
 (.reg none [i1 65 (.bin .add (.t 47) (.c (.int .i64 1))),
 mv 47 65] [0, 1, 2, 7, 45, 46, 47])))))))
 (.seq (.reg (some 4) [mv 66 0,
 i1 67 (.nilCheck (.t 66)),
 i1 68 (.fieldAddr 2 (.t 67)),
 i1 69 (.load 2 true (.t 7)),
 i1 70 (.call 92 [(.t 68), (.t 69)])] [])
 (.seq (.reg none [i1 6 (.mov false (.c (.int .i64 0)))] [6])
 .ret))))))
def res_Source_Put : List IRes := [⟨6, true, none⟩]
theorem is_Source_Put : fnIs Go.Proofs.Try.prog 47 71 res_Source_Put ir_Source_Put = true := by kernel_rfl


/-- What a Source knows (of its bytes nothing is said). -/
structure SrcG where
  total : Int
  known : List api_Span
def rowOK (s0 s : Store) (p : AV × AV) : Prop := ∃ (k : Int) (b : Nat) (cs : List AV), p = (.int .i64 k, .arr b 0 4096 4096) ∧ s0 b = none ∧ s b = some (.cells cs) ∧ cs.length = 4096 ∧ ∀ c ∈ cs, ∃ m : Int, c = .int .u8 m
/-- A Source at B, all of which is not in s0; and s0 is in the store. -/
def SrcAt (s0 s : Store) (B : Nat) (g : SrcG) : Prop := Sub s0 s ∧ s0 B = none ∧ ∃ M es, s B = some (.cells [.bool true, .int .i64 g.total, slv g.known, .mp M]) ∧ s0 M = none ∧ s M = some (.map es) ∧ ∀ p ∈ es, rowOK s0 s p
theorem SrcAt.set {s0 s : Store} {B : Nat} {g : SrcG} {c : Nat} {x : SO} (h : SrcAt s0 s B g) (hn : s c = none) : SrcAt s0 (s.set c x) B g := by
  obtain ⟨h1, h2, M, es, h3, h4, h5, h6⟩ := h
  have ne : ∀ b o, s b = some o → (s.set c x) b = some o := fun b o hb => by rw [set_ne (fun e => by rw [e, hn] at hb; cases hb)]; exact hb
  exact ⟨h1.set hn, h2, M, es, ne _ _ h3, h4, ne _ _ h5, fun p hp => by
    obtain ⟨k, b, cs, q1, q2, q3, q4⟩ := h6 p hp
    exact ⟨k, b, cs, q1, q2, ne _ _ q3, q4⟩⟩
theorem SrcAt.setAt {s0 s : Store} {B : Nat} {g : SrcG} (h : SrcAt s0 s B g) : ∃ cs, SetAt s B 2 cs g.known ∧ ∀ l, SrcAt s0 (s.set B (.cells (AB.setAt cs 2 [slv l]))) B ⟨g.total, l⟩ := by
  obtain ⟨h1, h2, M, es, h3, h4, h5, h6⟩ := h
  refine ⟨_, ⟨h3, rfl⟩, fun l => ⟨fun b o hb => ?_, h2, M, es, ?_, h4, ?_, fun p hp => ?_⟩⟩
  · rw [set_ne (fun e => by rw [e, h2] at hb; cases hb)]; exact h1 b o hb
  · rw [set_same]; rfl
  · rw [set_ne (fun e => by rw [e, h3] at h5; cases h5)]; exact h5
  · obtain ⟨k, b, cs, q1, q2, q3, q4, q5⟩ := h6 p hp
    refine ⟨k, b, cs, q1, q2, ?_, q4, q5⟩
    rw [set_ne (fun e => by
      rw [e, h3] at q3
      injection q3 with q3; injection q3 with q3
      obtain ⟨m, hm⟩ := q5 (.bool true) (by rw [← q3]; exact List.mem_cons_self)
      cases hm)]
    exact q3
theorem Source_is_fn {s0 s : Store} {B : Nat} {g : SrcG} {Q : List AV → Store → Prop} (h : SrcAt s0 s B g) (hq : Q [.bool true] s) : FN Go.Proofs.Try.prog 89 [.ref B 0] s Q := by
  obtain ⟨h1, h2, M, es, h3, h4, h5, h6⟩ := h
  refine FN.weak (FN.of (draw_ok mix) is_Source_is rfl (Nat.le_of_ble_eq_true rfl) ?_)
  rw [ir_Source_is, res_Source_is]
  simp -implicitDefEqProofs only [go_sem, start, startE, resVs, resV, resC, allV, retK, Nat.reduceBEq, Nat.reduceAdd, Nat.reduceMul, Nat.reduceLeDiff, Nat.reduceEqDiff, Nat.reduceBNe, Nat.ble_eq, UInt8.reduceToNat, h3]
  exact ⟨s, Sub.refl s, hq⟩
theorem Source_Total_fn {s0 s : Store} {B : Nat} {g : SrcG} {Q : List AV → Store → Prop} (h : SrcAt s0 s B g) (hq : Q [.int .i64 g.total] s) : FN Go.Proofs.Try.prog 95 [.ref B 0] s Q := by
  refine FN.weak (FN.of (draw_ok mix) is_Source_Total rfl (Nat.le_of_ble_eq_true rfl) ?_)
  rw [ir_Source_Total, res_Source_Total]
  simp -implicitDefEqProofs only [go_sem, start, startE, resVs, resV, resC, allV, retK, Nat.reduceBEq, Nat.reduceAdd, Nat.reduceMul, Nat.reduceLeDiff, Nat.reduceEqDiff, Nat.reduceBNe, Nat.ble_eq, UInt8.reduceToNat]
  refine Source_is_fn h ?_
  obtain ⟨h1, h2, M, es, h3, h4, h5, h6⟩ := h
  simp -implicitDefEqProofs only [go_sem, start, startE, resVs, resV, resC, allV, retK, Nat.reduceBEq, Nat.reduceAdd, Nat.reduceMul, Nat.reduceLeDiff, Nat.reduceEqDiff, Nat.reduceBNe, Nat.ble_eq, UInt8.reduceToNat, h3]
  exact ⟨fun h => h.elim, fun _ => ⟨s, Sub.refl s, hq⟩⟩
theorem Source_Known_fn {s0 s : Store} {B : Nat} {g : SrcG} {Q : List AV → Store → Prop} (h : SrcAt s0 s B g) : ok (Set_All g.known) (fun r => Q [slv r] s) → FN Go.Proofs.Try.prog 93 [.ref B 0] s Q := by
  intro hh
  refine FN.weak (FN.of (draw_ok mix) is_Source_Known rfl (Nat.le_of_ble_eq_true rfl) ?_)
  rw [ir_Source_Known, res_Source_Known]
  simp -implicitDefEqProofs only [go_sem, start, startE, resVs, resV, resC, allV, retK, Nat.reduceBEq, Nat.reduceAdd, Nat.reduceMul, Nat.reduceLeDiff, Nat.reduceEqDiff, Nat.reduceBNe, Nat.ble_eq, UInt8.reduceToNat]
  refine Source_is_fn h ?_
  obtain ⟨cs, hs, _⟩ := h.setAt
  simp -implicitDefEqProofs only [go_sem, start, startE, resVs, resV, resC, allV, retK, Nat.reduceBEq, Nat.reduceAdd, Nat.reduceMul, Nat.reduceLeDiff, Nat.reduceEqDiff, Nat.reduceBNe, Nat.ble_eq, UInt8.reduceToNat]
  refine ⟨fun h => h.elim, fun _ => ?_⟩
  refine Set_All_fn hs (ok_mono hh fun r hq => ?_)
  simp -implicitDefEqProofs only [go_sem, start, startE, resVs, resV, resC, allV, retK, Nat.reduceBEq, Nat.reduceAdd, Nat.reduceMul, Nat.reduceLeDiff, Nat.reduceEqDiff, Nat.reduceBNe, Nat.ble_eq, UInt8.reduceToNat]
  exact ⟨s, Sub.refl s, hq⟩
theorem Source_First_fn {s0 s : Store} {B : Nat} {g : SrcG} {at_ : Int} {Q : List AV → Store → Prop} (h : SrcAt s0 s B g) : ok (Set_Upto g.known (max 0 at_)) (fun r => Q [.int .i64 (min g.total r)] s) → FN Go.Proofs.Try.prog 50 [.ref B 0, .int .i64 at_] s Q := by
  intro hh
  refine FN.weak (FN.of (draw_ok mix) is_Source_First rfl (Nat.le_of_ble_eq_true rfl) ?_)
  rw [ir_Source_First, res_Source_First]
  simp -implicitDefEqProofs only [go_sem, start, startE, resVs, resV, resC, allV, retK, Nat.reduceBEq, Nat.reduceAdd, Nat.reduceMul, Nat.reduceLeDiff, Nat.reduceEqDiff, Nat.reduceBNe, Nat.ble_eq, UInt8.reduceToNat]
  refine Source_is_fn h ?_
  obtain ⟨cs, hs, _⟩ := h.setAt
  obtain ⟨h1, h2, M, es, h3, h4, h5, h6⟩ := h
  simp -implicitDefEqProofs only [go_sem, start, startE, resVs, resV, resC, allV, retK, Nat.reduceBEq, Nat.reduceAdd, Nat.reduceMul, Nat.reduceLeDiff, Nat.reduceEqDiff, Nat.reduceBNe, Nat.ble_eq, UInt8.reduceToNat, h3]
  refine ⟨fun h => h.elim, fun _ => ?_⟩
  obtain ⟨r, hr, hq⟩ := hh
  refine ⟨[.int .i64 r], rfl, Set_Upto_fn hs ⟨r, hr, rfl, rfl⟩, ?_⟩
  simp -implicitDefEqProofs only [go_sem, start, startE, resVs, resV, resC, allV, retK, Nat.reduceBEq, Nat.reduceAdd, Nat.reduceMul, Nat.reduceLeDiff, Nat.reduceEqDiff, Nat.reduceBNe, Nat.ble_eq, UInt8.reduceToNat]
  exact ⟨s, Sub.refl s, hq⟩
theorem source_New_fn {s : Store} {n : Int} {Q : List AV → Store → Prop} (hn : 0 ≤ n ∧ n ≤ 2147483647) (hq : ∀ B s', SrcAt s s' B ⟨n, []⟩ → Q [.ref B 0, .int .i64 0] s') : FN Go.Proofs.Try.prog 46 [.int .i64 n] s Q := by
  refine FN.weak (FN.of (draw_ok mix) is_source_New rfl (Nat.le_of_ble_eq_true rfl) ?_)
  rw [ir_source_New, res_source_New]
  simp -implicitDefEqProofs only [go_sem, start, startE, resVs, resV, resC, allV, retK, Nat.reduceBEq, Nat.reduceAdd, Nat.reduceMul, Nat.reduceLeDiff, Nat.reduceEqDiff, Nat.reduceBNe, Nat.ble_eq, UInt8.reduceToNat]
  refine ⟨fun h => ?_, fun _ M hM B hB => ⟨_, Sub.refl _, hq B _ ⟨((Sub.refl s).set hM).set hB, ?_, M, [], set_same .., hM, ?_, fun p hp => by cases hp⟩⟩⟩
  · simp at h; omega
  · rw [set_none] at hB; exact hB.2
  · rw [set_none] at hB; rw [set_ne (Ne.symm hB.1), set_same]
def allU8 (cs : List AV) : Prop := ∀ c ∈ cs, ∃ m : Int, c = .int .u8 m
theorem rows_keys {s0 s : Store} {es : List (AV × AV)} (h : ∀ p ∈ es, rowOK s0 s p) : keysOK (.int .i64) es = true := by
  unfold keysOK
  rw [List.all_eq_true]
  intro p hp
  obtain ⟨k, b, cs, rfl, _⟩ := h p hp
  rfl
theorem rows_find {s0 s : Store} {k : AV} : ∀ {es : List (AV × AV)}, (∀ p ∈ es, rowOK s0 s p) → findK k es = none ∨ ∃ b cs, findK k es = some (.arr b 0 4096 4096) ∧ s0 b = none ∧ s b = some (.cells cs) ∧ cs.length = 4096 ∧ allU8 cs
  | [], _ => .inl rfl
  | p :: es, h => by
    unfold findK
    cases hk : keyIs k p.1 with
    | false => exact rows_find (es := es) fun q hq => h q (List.mem_cons_of_mem _ hq)
    | true =>
      obtain ⟨k', b, cs, e, h1, h2, h3, h4⟩ := h p List.mem_cons_self
      exact .inr ⟨b, cs, by rw [e]; rfl, h1, h2, h3, h4⟩
theorem rows_put {s0 s : Store} {k : Int} {b : Nat} {cs : List AV} (h1 : s0 b = none) (h2 : s b = some (.cells cs)) (h3 : cs.length = 4096) (h4 : allU8 cs) : ∀ {es : List (AV × AV)}, (∀ p ∈ es, rowOK s0 s p) → ∀ p ∈ putK (.int .i64 k) (.arr b 0 4096 4096) es, rowOK s0 s p
  | [], _ => fun p hp => by
    rcases List.mem_cons.1 hp with rfl | hp
    · exact ⟨k, b, cs, rfl, h1, h2, h3, h4⟩
    · cases hp
  | q :: es, h => by
    unfold putK
    cases hk : keyIs (.int .i64 k) q.1 with
    | true =>
      intro p hp
      rcases List.mem_cons.1 hp with rfl | hp
      · exact ⟨k, b, cs, rfl, h1, h2, h3, h4⟩
      · exact h p (List.mem_cons_of_mem _ hp)
    | false =>
      intro p hp
      rcases List.mem_cons.1 hp with rfl | hp
      · exact h _ List.mem_cons_self
      · exact rows_put h1 h2 h3 h4 (fun q' hq => h q' (List.mem_cons_of_mem _ hq)) p hp
theorem SrcAt.row {s0 s : Store} {B : Nat} {g : SrcG} {b : Nat} {cs cs' : List AV} (h : SrcAt s0 s B g) (hb : s0 b = none) (h1 : s b = some (.cells cs)) (h2 : allU8 cs) (h3 : cs'.length = 4096) (h4 : allU8 cs') : SrcAt s0 (s.set b (.cells cs')) B g := by
  obtain ⟨q1, q2, M, es, q3, q4, q5, q6⟩ := h
  have hB : B ≠ b := fun e => by
    rw [← e, q3] at h1
    injection h1 with h1; injection h1 with h1
    obtain ⟨m, hm⟩ := h2 (.bool true) (by rw [← h1]; exact List.mem_cons_self)
    cases hm
  have hM : M ≠ b := fun e => by rw [← e, q5] at h1; cases h1
  refine ⟨fun c o hc => ?_, q2, M, es, by rw [set_ne hB]; exact q3, q4, by rw [set_ne hM]; exact q5, fun p hp => ?_⟩
  · rw [set_ne (fun e => by rw [e, hb] at hc; cases hc)]; exact q1 c o hc
  · obtain ⟨k, b', ds, e, r1, r2, r3, r4⟩ := q6 p hp
    by_cases hbb : b' = b
    · subst hbb; exact ⟨k, b', cs', e, r1, set_same .., h3, h4⟩
    · exact ⟨k, b', ds, e, r1, by rw [set_ne hbb]; exact r2, r3, r4⟩
theorem SrcAt.put {s0 s : Store} {B M : Nat} {g : SrcG} {b : Nat} {cs : List AV} {es : List (AV × AV)} {k : Int} (q1 : Sub s0 s) (q2 : s0 B = none) (q3 : s B = some (.cells [.bool true, .int .i64 g.total, slv g.known, .mp M])) (q4 : s0 M = none) (q5 : s M = some (.map es)) (q6 : ∀ p ∈ es, rowOK s0 s p) (h1 : s0 b = none) (h2 : s b = some (.cells cs)) (h3 : cs.length = 4096) (h4 : allU8 cs) : SrcAt s0 (s.set M (.map (putK (.int .i64 k) (.arr b 0 4096 4096) es))) B g := by
  have hB : B ≠ M := fun e => by rw [← e, q3] at q5; cases q5
  refine ⟨fun c o hc => ?_, q2, M, _, by rw [set_ne hB]; exact q3, q4, set_same .., fun p hp => ?_⟩
  · rw [set_ne (fun e => by rw [e, q4] at hc; cases hc)]; exact q1 c o hc
  · obtain ⟨k', b', ds, e, r1, r2, r3, r4⟩ := rows_put h1 h2 h3 h4 q6 p hp
    exact ⟨k', b', ds, e, r1, by rw [set_ne (fun e => by rw [e, q5] at r2; cases r2)]; exact r2, r3, r4⟩
theorem look_none {s0 s : Store} {es : List (AV × AV)} {n : Int} (h : ∀ p ∈ es, rowOK s0 s p) (e : findK (.int .i64 n) es = none) : lookupO (.int .i64) (.sl false 1 0 []) true (.int .i64 n) (some (.map es)) = .prt True (.tup [.sl false 1 0 [], .bool false]) := by
  show ckL true (keyOK (.int .i64) (.int .i64 n) = true ∧ keysOK (.int .i64) es = true) (lookV (.sl false 1 0 []) true (findK (.int .i64 n) es)) = _
  rw [e, rows_keys h]
  show PR.prt (true = true ∧ true = true) _ = _
  simp [lookV, okV, view]
theorem look_some {s0 s : Store} {es : List (AV × AV)} {n : Int} {b : Nat} (h : ∀ p ∈ es, rowOK s0 s p) (e : findK (.int .i64 n) es = some (.arr b 0 4096 4096)) : lookupO (.int .i64) (.sl false 1 0 []) true (.int .i64 n) (some (.map es)) = .prt True (.tup [.arr b 0 4096 4096, .bool true]) := by
  show ckL true (keyOK (.int .i64) (.int .i64 n) = true ∧ keysOK (.int .i64) es = true) (lookV (.sl false 1 0 []) true (findK (.int .i64 n) es)) = _
  rw [e, rows_keys h]
  show PR.prt (true = true ∧ true = true) _ = _
  simp [lookV, okV, view]
theorem u8_flat (l : List UInt8) : allU8 (flat l) := fun c hc => by
  obtain ⟨y, hy, hc⟩ := List.mem_flatten.1 hc
  obtain ⟨z, _, rfl⟩ := List.mem_map.1 hy
  exact ⟨_, List.mem_singleton.1 hc⟩
theorem u8_setAt {cs ds : List AV} {o : Nat} (h : allU8 cs) (k : allU8 ds) : allU8 (AB.setAt cs o ds) := fun c hc => by
  unfold AB.setAt at hc
  rcases List.mem_append.1 hc with hc | hc
  · rcases List.mem_append.1 hc with hc | hc
    · exact h c (List.mem_of_mem_take hc)
    · exact k c hc
  · exact h c (List.mem_of_mem_drop hc)
theorem arrOff_o {o : Nat} (h : o < 4096) : arrOff 0 4096 o 1 = o := by
  unfold arrOff
  rw [show (4096 == o) = false by simp; omega]; simp
theorem cpy {σ : St} {d : Option Nat} {K : St → Prop} {s0 : Store} {B b : Nat} {g : SrcG} {cs : List AV} {l : List UInt8} {o o' n cap : Nat} (h : SrcAt s0 σ.s B g) (hb : s0 b = none) (h2 : σ.s b = some (.cells cs)) (h3 : cs.length = 4096) (h4 : allU8 cs) (ho : o < 4096) (he : o' = o) (hn : n = 4096 - o)
    (hK : ∀ s3, SrcAt s0 s3 B g → K ({ σ with s := s3 }.put d (.int .i64 (min l.length (4096 - o) : Nat)))) : copyAW 1 σ d K (.arr b o' n cap) (some (l.length, flat l)) := by
  subst he; subst hn
  refine copyAW_in h2 (by omega) (hK _ (SrcAt.row h hb h2 h4 ?_ (u8_setAt h4 fun c hc => u8_flat l c (List.mem_of_mem_take hc))))
  have hf : (flat l).length = l.length := by rw [flat_len]; show l.length * 1 = _; omega
  rw [setAt_len _ _ _ (by rw [List.length_take, hf]; omega), h3]
def writeB : Int × List UInt8 → Option ((Int × List UInt8) ⊕ Unit) := fun (a, l) =>
  if decide ((l.length : Int) > 0) then
    some (.inl (w64 (a + (min l.length (4096 - (a.tmod 4096).toNat) : Nat)), l.drop (min l.length (4096 - (a.tmod 4096).toNat))))
  else some (.inr ())
theorem writeB_runs : ∀ (n : Nat) (l : List UInt8) (a : Int), l.length ≤ n → 0 ≤ a → a + l.length ≤ 9223372036854775807 → Runs writeB (n + 1) (a, l) () := by
  intro n
  induction n with
  | zero =>
    intro l a hl h0 h1
    refine .stop ?_
    simp only [writeB]
    rw [if_neg (by rw [decide_eq_true_iff]; omega)]
  | succ n ih =>
    intro l a hl h0 h1
    have hm : 0 ≤ a.tmod 4096 := Int.tmod_nonneg _ h0
    have hm2 : a.tmod 4096 < 4096 := Int.tmod_lt_of_pos _ (by decide)
    by_cases h : l.length = 0
    · refine .stop ?_
      simp only [writeB]
      rw [if_neg (by rw [decide_eq_true_iff]; omega)]
    · have hp : 0 < min l.length (4096 - (a.tmod 4096).toNat) := by omega
      have hle : min l.length (4096 - (a.tmod 4096).toNat) ≤ l.length := Nat.min_le_left ..
      refine .step (t := (w64 (a + (min l.length (4096 - (a.tmod 4096).toNat) : Nat)), l.drop (min l.length (4096 - (a.tmod 4096).toNat)))) ?_ ?_
      · simp only [writeB]
        rw [if_pos (by rw [decide_eq_true_iff]; omega)]
      · generalize min l.length (4096 - (a.tmod 4096).toNat) = N at hp hle
        rw [w64_id (by omega) (by omega)]
        refine ih _ _ ?_ (by omega) ?_
        · rw [List.length_drop]; omega
        · rw [List.length_drop]; omega
theorem Source_write_fn {s0 s : Store} {B : Nat} {g : SrcG} {a0 : Int} {l0 : List UInt8} {Q : List AV → Store → Prop} (h : SrcAt s0 s B g) (h0 : 0 ≤ a0) (h1 : a0 + l0.length ≤ 9223372036854775807) (hq : ∀ s', SrcAt s0 s' B g → Q [] s') : FN Go.Proofs.Try.prog 91 [.ref B 0, .int .i64 a0, .sl false 1 l0.length (flat l0)] s Q := by
  refine FN.weak (FN.of (draw_ok mix) is_Source_write rfl (Nat.le_of_ble_eq_true rfl) ?_)
  rw [ir_Source_write, res_Source_write]
  have hw : ok (iter writeB (a0, l0)) fun _ => ∀ s', SrcAt s0 s' B g → Q [] s' := ⟨(), (writeB_runs l0.length l0 a0 (Nat.le_refl _) h0 h1).iter (by omega), hq⟩
  simp -implicitDefEqProofs only [go_sem, start, startE, resVs, resV, resC, allV, retK, Nat.reduceBEq, Nat.reduceAdd, Nat.reduceMul, Nat.reduceLeDiff, Nat.reduceEqDiff, Nat.reduceBNe, Nat.ble_eq, UInt8.reduceToNat]
  revert hw
  refine iter_toR (fun st τ => 0 ≤ st.1 ∧ st.1 + (st.2.length : Int) ≤ 9223372036854775807 ∧ ∃ s', τ = ⟨[(0, .ref B 0), (1, .int .i64 st.1), (2, .sl false 1 st.2.length (flat st.2))], [], s'⟩ ∧ SrcAt s0 s' B g) ⟨h0, h1, s, rfl, h⟩ ?_
  rintro J ⟨a, l⟩ τ ⟨ha, hal, s', rfl, hs⟩
  have ha : 0 ≤ a := ha
  have hal : a + (l.length : Int) ≤ 9223372036854775807 := hal
  obtain ⟨q1, q2, M, es, q3, q4, q5, q6⟩ := id hs
  rw [writeB]
  simp -implicitDefEqProofs only [go_sem, start, startE, resVs, resV, resC, allV, retK, Nat.reduceBEq, Nat.reduceAdd, Nat.reduceMul, Nat.reduceLeDiff, Nat.reduceEqDiff, Nat.reduceBNe, Nat.ble_eq, UInt8.reduceToNat, q3, q5]
  rintro ⟨hw1, hw2⟩
  refine ⟨fun hc => ⟨by decide, by decide, ?_⟩, fun hc => ⟨s', Sub.refl s', hw2 hc s' hs⟩⟩
  have hw := hw1 hc
  clear hw1 hw2
  have hm : 0 ≤ a.tmod 4096 := Int.tmod_nonneg _ ha
  have hm2 : a.tmod 4096 < 4096 := Int.tmod_lt_of_pos _ (by decide)
  have hN : min l.length (4096 - (a.tmod 4096).toNat) ≤ l.length := Nat.min_le_left ..
  generalize hNN : min l.length (4096 - (a.tmod 4096).toNat) = N at hw hN
  have hsub : AB.sub (flat l) (N * 1) ((l.length - N) * 1) = flat (l.drop N) := by
    rw [flat_sub l 1 N (l.length - N) rfl, List.take_of_length_le (by simp)]
  have hlen : (flat (l.drop N)).length / 1 = (l.drop N).length := by rw [Nat.div_one, flat_len]; exact Nat.mul_one _
  have hj : ∀ s3, SrcAt s0 s3 B g → J ⟨[(0, .ref B 0), (1, .int .i64 (w64 (a + (N : Nat)))), (2, .sl false 1 (l.drop N).length (flat (l.drop N)))], [], s3⟩ := fun s3 h3 => by
    have hw' : w64 (a + (N : Nat)) = a + (N : Nat) := w64_id (by omega) (by omega)
    refine hw _ ⟨?_, ?_, s3, rfl, h3⟩
    · rw [hw']; omega
    · rw [hw', List.length_drop]; omega
  rcases rows_find (k := .int .i64 (w64 (a.tdiv 4096))) q6 with e | ⟨b, cs, e, e1, e2, e3, e4⟩
  · rw [look_none q6 e]
    simp -implicitDefEqProofs only [go_sem, start, startE, resVs, resV, resC, allV, retK, Nat.reduceBEq, Nat.reduceAdd, Nat.reduceMul, Nat.reduceLeDiff, Nat.reduceEqDiff, Nat.reduceBNe, Nat.ble_eq, UInt8.reduceToNat, q3, q5]
    refine ⟨fun _ => ⟨by decide, by decide, by decide, fun b hb => ?_⟩, fun h => (by cases h)⟩
    have hB : B ≠ b := fun e => by rw [← e, q3] at hb; cases hb
    have hM : M ≠ b := fun e => by rw [← e, q5] at hb; cases hb
    have e1 : s0 b = none := Sub.none q1 hb
    simp -implicitDefEqProofs only [go_sem, start, startE, resVs, resV, resC, allV, retK, Nat.reduceBEq, Nat.reduceAdd, Nat.reduceMul, Nat.reduceLeDiff, Nat.reduceEqDiff, Nat.reduceBNe, Nat.ble_eq, UInt8.reduceToNat, set_ne hB, set_ne hM, q3, q5]
    refine ⟨⟨rfl, rfl, rows_keys q6⟩, ?_⟩
    simp -implicitDefEqProofs only [go_sem, start, startE, resVs, resV, resC, allV, retK, Nat.reduceBEq, Nat.reduceAdd, Nat.reduceMul, Nat.reduceLeDiff, Nat.reduceEqDiff, Nat.reduceBNe, Nat.ble_eq, UInt8.reduceToNat]
    refine ⟨⟨hm, Int.le_of_lt hm2, Int.le_refl _⟩, ?_⟩
    rw [srcV_sl, flat_views]
    have h5 := hs.set (x := .cells (flat (List.replicate (Int.toNat 4096) (0 : UInt8)))) hb
    obtain ⟨w1, w2, M2, es2, w3, w4, w5, w6⟩ := id h5
    have hlr : (flat (List.replicate (Int.toNat 4096) (0 : UInt8))).length = 4096 := by rw [flat_len, List.length_replicate]; rfl
    have hss := SrcAt.put (k := w64 (a.tdiv 4096)) w1 w2 (by rw [set_ne hB]; exact q3) q4 (by rw [set_ne hM]; exact q5) (fun p hp => by
      obtain ⟨k', b', ds, e, r1, r2, r3, r4⟩ := q6 p hp
      exact ⟨k', b', ds, e, r1, by rw [set_ne (fun e => by rw [e, hb] at r2; cases r2)]; exact r2, r3, r4⟩) e1 (set_same ..) hlr (u8_flat _)
    refine cpy (o := (a.tmod 4096).toNat) hss e1 (by show Store.set (Store.set s' b _) M _ b = _; rw [set_ne (Ne.symm hM), set_same]) hlr (u8_flat _) (by omega) (arrOff_o (by omega)) (by simp; omega) fun s3 h3 => ?_
    rw [hNN]
    simp -implicitDefEqProofs only [go_sem, start, startE, resVs, resV, resC, allV, retK, Nat.reduceBEq, Nat.reduceAdd, Nat.reduceMul, Nat.reduceLeDiff, Nat.reduceEqDiff, Nat.reduceBNe, Nat.ble_eq, UInt8.reduceToNat]
    rw [hsub, hlen]
    exact ⟨⟨by omega, by omega, by omega⟩, hj s3 h3⟩
  · rw [look_some q6 e]
    simp -implicitDefEqProofs only [go_sem, start, startE, resVs, resV, resC, allV, retK, Nat.reduceBEq, Nat.reduceAdd, Nat.reduceMul, Nat.reduceLeDiff, Nat.reduceEqDiff, Nat.reduceBNe, Nat.ble_eq, UInt8.reduceToNat, q3, q5]
    refine ⟨fun h => (by cases h), fun _ => ?_⟩
    refine ⟨⟨hm, Int.le_of_lt hm2, Int.le_refl _⟩, ?_⟩
    rw [srcV_sl, flat_views]
    refine cpy (o := (a.tmod 4096).toNat) hs e1 e2 e3 e4 (by omega) (arrOff_o (by omega)) (by omega) fun s3 h3 => ?_
    rw [hNN]
    simp -implicitDefEqProofs only [go_sem, start, startE, resVs, resV, resC, allV, retK, Nat.reduceBEq, Nat.reduceAdd, Nat.reduceMul, Nat.reduceLeDiff, Nat.reduceEqDiff, Nat.reduceBNe, Nat.ble_eq, UInt8.reduceToNat]
    rw [hsub, hlen]
    exact ⟨⟨by omega, by omega, by omega⟩, hj s3 h3⟩
def putB (a : Int) (l : List UInt8) (ms : List api_Span) : Int → Option (Int ⊕ Unit) := fun k =>
  if decide (k < (ms.length : Int)) then
    need (0 ≤ k ∧ k < ms.length ∧ (a ≤ (ix ms k).From ∧ (ix ms k).From ≤ (ix ms k).To ∧ (ix ms k).To ≤ a + l.length)) <|
    some (.inl (w64 (k + 1)))
  else some (.inr ())
def Source_Put (g : SrcG) (a : Int) (l : List UInt8) : Option (SrcG × Int) :=
  if decide (a < 0) || decide (a > g.total) then some (g, 2)
  else if decide ((l.length : Int) > w64 (g.total - a)) then some (g, 5)
  else
    bnd (Set_Missing g.known ⟨a, w64 (a + l.length)⟩) fun ms =>
    bnd (iter (putB a l ms) 0) fun _ =>
    bnd (Set_Put g.known ⟨a, w64 (a + l.length)⟩) fun kn => some (⟨g.total, kn⟩, 0)
theorem Source_Put_fn {s0 s : Store} {B : Nat} {g : SrcG} {a : Int} {l : List UInt8} {Q : List AV → Store → Prop} (h : SrcAt s0 s B g) (ht : g.total ≤ 2147483647) : ok (Source_Put g a l) (fun r => ∀ s', SrcAt s0 s' B r.1 → Q [.int .i64 r.2] s') → FN Go.Proofs.Try.prog 47 [.ref B 0, .int .i64 a, .sl false 1 l.length (flat l)] s Q := by
  intro hh
  refine FN.weak (FN.of (draw_ok mix) is_Source_Put rfl (Nat.le_of_ble_eq_true rfl) ?_)
  rw [ir_Source_Put, res_Source_Put]
  simp -implicitDefEqProofs only [go_sem, start, startE, resVs, resV, resC, allV, retK, Nat.reduceBEq, Nat.reduceAdd, Nat.reduceMul, Nat.reduceLeDiff, Nat.reduceEqDiff, Nat.reduceBNe, Nat.ble_eq, UInt8.reduceToNat]
  refine Source_is_fn h ?_
  obtain ⟨cs, hs, hset⟩ := h.setAt
  have h3 : ∃ M, s B = some (.cells [.bool true, .int .i64 g.total, slv g.known, .mp M]) := by obtain ⟨_, _, M, _, h3, _⟩ := h; exact ⟨M, h3⟩
  obtain ⟨M, h3⟩ := h3
  revert hh
  rw [Source_Put]
  simp -implicitDefEqProofs only [go_sem, start, startE, resVs, resV, resC, allV, retK, Nat.reduceBEq, Nat.reduceAdd, Nat.reduceMul, Nat.reduceLeDiff, Nat.reduceEqDiff, Nat.reduceBNe, Nat.ble_eq, UInt8.reduceToNat, h3]
  rintro ⟨w1, w2⟩
  refine ⟨fun h => h.elim, fun _ => ⟨fun hc => ⟨s, Sub.refl s, w1 hc s h⟩, fun hc => ⟨fun hd => ⟨s, Sub.refl s, (w2 hc).1 hd s h⟩, fun hd => ?_⟩⟩⟩
  obtain ⟨ms, m1, hh⟩ := (w2 hc).2 hd
  refine ⟨[slw ms], rfl, Set_Missing_fn hs ⟨ms, m1, rfl, rfl⟩, ?_⟩
  clear w1 w2
  have hc1 : 0 ≤ a ∧ a ≤ g.total := by simp at hc; omega
  have hl : a + l.length ≤ g.total := by
    have hd : ¬ ((l.length : Int) > w64 (g.total - a)) := by simpa using hd
    rw [w64_id (by omega) (by omega)] at hd; omega
  have hw : w64 (a + l.length) = a + l.length := w64_id (by omega) (by omega)
  rw [hw] at hh ⊢
  simp -implicitDefEqProofs only [go_sem, start, startE, resVs, resV, resC, allV, retK, Nat.reduceBEq, Nat.reduceAdd, Nat.reduceMul, Nat.reduceLeDiff, Nat.reduceEqDiff, Nat.reduceBNe, Nat.ble_eq, UInt8.reduceToNat]
  revert hh
  refine iter_toR (fun k τ => ∃ s', τ = ⟨[(0, .ref B 0), (1, .int .i64 a), (2, .sl false 1 l.length (flat l)), (7, .loc [.int .i64 a, .int .i64 (a + l.length)]), (45, slw ms), (46, .int .i64 (ms.length : Nat)), (47, .int .i64 k)], [], s'⟩ ∧ SrcAt s0 s' B g) ⟨s, rfl, h⟩ ?_
  rintro J k τ ⟨s', rfl, h'⟩
  obtain ⟨cs', hs', hset'⟩ := h'.setAt
  have hsub := h'.1
  rw [putB]
  simp -implicitDefEqProofs only [go_sem, start, startE, resVs, resV, resC, allV, retK, Nat.reduceBEq, Nat.reduceAdd, Nat.reduceMul, Nat.reduceLeDiff, Nat.reduceEqDiff, Nat.reduceBNe, Nat.ble_eq, UInt8.reduceToNat]
  rintro ⟨w1, w2⟩
  refine ⟨fun hk => ?_, fun hk => ?_⟩
  · obtain ⟨⟨k1, k2, k3, k4, k5⟩, w1⟩ := w1 hk
    refine ⟨⟨k1, k2⟩, ?_⟩
    rw [w64_id (n := (ix ms k).From - a) (by omega) (by omega), w64_id (n := (ix ms k).To - a) (by omega) (by omega)]
    refine ⟨⟨by omega, by omega, by omega⟩, ?_⟩
    refine Source_write_fn h' (by omega) ?_ fun s3 h3 => ?_
    · have : (part l ((ix ms k).From - a) ((ix ms k).To - a)).length ≤ ((ix ms k).To - a - ((ix ms k).From - a)).toNat := by unfold part; exact List.length_take_le ..
      omega
    · simp -implicitDefEqProofs only [go_sem, start, startE, resVs, resV, resC, allV, retK, Nat.reduceBEq, Nat.reduceAdd, Nat.reduceMul, Nat.reduceLeDiff, Nat.reduceEqDiff, Nat.reduceBNe, Nat.ble_eq, UInt8.reduceToNat]
      exact w1 _ ⟨s3, rfl, h3⟩
  · have w2 := w2 hk
    refine Set_Put_fn (x := ⟨a, a + l.length⟩) hs' (ok_mono w2 fun kn hq => ?_)
    simp -implicitDefEqProofs only [go_sem, start, startE, resVs, resV, resC, allV, retK, Nat.reduceBEq, Nat.reduceAdd, Nat.reduceMul, Nat.reduceLeDiff, Nat.reduceEqDiff, Nat.reduceBNe, Nat.ble_eq, UInt8.reduceToNat]
    exact ⟨_, Sub.refl _, hq _ (hset' kn)⟩
theorem source_Whole_fn {s : Store} {l : List UInt8} {Q : List AV → Store → Prop} (hl : l.length ≤ 2147483647) : ok (Source_Put ⟨l.length, []⟩ 0 l) (fun r => ∀ B s', SrcAt s s' B r.1 → Q [.ref B 0] s') → FN Go.Proofs.Try.prog 82 [.sl false 1 l.length (flat l)] s Q := by
  intro hh
  refine FN.weak (FN.of (draw_ok mix) is_source_Whole rfl (Nat.le_of_ble_eq_true rfl) ?_)
  rw [ir_source_Whole, res_source_Whole]
  simp -implicitDefEqProofs only [go_sem, start, startE, resVs, resV, resC, allV, retK, Nat.reduceBEq, Nat.reduceAdd, Nat.reduceMul, Nat.reduceLeDiff, Nat.reduceEqDiff, Nat.reduceBNe, Nat.ble_eq, UInt8.reduceToNat]
  refine source_New_fn (by omega) fun B s' h' => ?_
  simp -implicitDefEqProofs only [go_sem, start, startE, resVs, resV, resC, allV, retK, Nat.reduceBEq, Nat.reduceAdd, Nat.reduceMul, Nat.reduceLeDiff, Nat.reduceEqDiff, Nat.reduceBNe, Nat.ble_eq, UInt8.reduceToNat]
  refine ⟨fun h => h.elim, fun _ => Source_Put_fn h' (show (l.length : Int) ≤ 2147483647 by omega) (ok_mono hh fun r hq s3 h3 => ?_)⟩
  simp -implicitDefEqProofs only [go_sem, start, startE, resVs, resV, resC, allV, retK, Nat.reduceBEq, Nat.reduceAdd, Nat.reduceMul, Nat.reduceLeDiff, Nat.reduceEqDiff, Nat.reduceBNe, Nat.ble_eq, UInt8.reduceToNat]
  exact ⟨s3, Sub.refl _, hq B s3 h3⟩

end Go.AB
end

section
set_option maxRecDepth 4000
namespace Go.AB
open Go
/-- catchword/span.Add -/
def span_Add (l_0 : (List Int)) : Option (Int × Int) :=
  jnS (
    bndS (
      iter (fun ((n5, over6, t7) : Int × Bool × Int) =>
        if decide (t7 < (l_0.length : Int)) then
          jnS (
            need (0 ≤ t7 ∧ t7 < l_0.length) <|
            if decide (ix l_0 t7 < 0) then
              some (.inr ((0 : Int), (2 : Int)))
            else
              if over6 || (decide (ix l_0 t7 > w64 (2147483647 - n5))) then
                some (.inl (n5, true))
              else
                some (.inl (w64 (n5 + (ix l_0 t7)), over6))) (fun ((n12, over13) : Int × Bool) =>
            some (.inl (n12, over13, w64 (t7 + 1))))
          (fun ((t17, t18) : Int × Int) => some (.inr (.inr (t17, t18))))
        else
          some (.inr (.inl (n5, over6)))) (0, false, 0)) (fun ((n8, over9) : Int × Bool) =>
      some (.inl (n8, over9)))
    (fun ((t10, t11) : Int × Int) => some (.inr (t10, t11)))) (fun ((n1, over2) : Int × Bool) =>
    if over2 then
      some (0, 5)
    else
      some (n1, 0))
  (fun ((t3, t4) : Int × Int) => some (t3, t4))
def ir_span_Add : IC :=
 (.seq (.reg none [i1 2 (.mov false (.c (.int .i64 0))),
 i1 3 (.mov false (.c (.int .i64 0)))] [0])
 (.seq (.reg none [i1 4 (.mov false (.c (.int .i64 0))),
 i1 5 (.mov false (.c (.bool false)))] [0, 4, 5])
 (.join [(4, false), (5, false)] (.seq (.reg none [mt 8 0,
 i1 9 (.len 0 (.t 8)),
 i1 10 (.mov false (.c (.int .i64 0)))] [4, 5, 8, 9, 10])
 (.block 0 (.loop [(4, false), (5, false), (8, true), (9, false), (10, false)] (.seq (.reg none [i1 11 (.bin .lss (.t 10) (.t 9))] [4, 5, 8, 9, 10, 11])
 (.seq (.cond (.t 11) .skip
 (.exit 0))
 (.join [(4, false), (5, false), (8, true), (9, false), (10, false)] (.block 1 (.seq (.reg none [i1 12 (.indexAddr [.int .i64 0] (.t 8) (.t 10)),
 i1 13 (.load 1 false (.t 12)),
 mv 7 13] [4, 5, 7, 8, 9, 10])
 (.block 2 (.seq (.reg none [mv 18 7,
 i1 19 (.bin .lss (.t 18) (.c (.int .i64 0))),
 mv 17 19] [4, 5, 7, 8, 9, 10, 17])
 (.cond (.t 17) (.seq (.reg none [i1 2 (.mov false (.c (.int .i64 0))),
 i1 3 (.mov false (.c (.int .i64 2)))] [2, 3])
 .ret)
 (.seq (.reg none [mv 21 5,
 mv 22 21,
 mvg 23 7 22 false,
 mvg 24 4 22 false,
 i1g 25 22 false (.bin .sub (.c (.int .i64 2147483647)) (.t 24)),
 i1g 26 22 false (.bin .gtr (.t 23) (.t 25)),
 i1 27 (.pick (.t 22) (.c (.bool true)) (.t 26)),
 mv 20 27] [4, 5, 7, 8, 9, 10, 20])
 (.cond (.t 20) (.reg none [i1 5 (.mov false (.c (.bool true)))] [4, 5, 8, 9, 10])
 (.reg none [mv 14 4,
 mv 15 7,
 i1 16 (.bin .add (.t 14) (.t 15)),
 mv 4 16] [4, 5, 8, 9, 10]))))))))
 (.reg none [i1 28 (.bin .add (.t 10) (.c (.int .i64 1))),
 mv 10 28] [4, 5, 8, 9, 10])))))))
 (.seq (.seq (.reg none [mv 29 5] [4, 29])
 (.cond (.t 29) (.seq (.reg none [i1 2 (.mov false (.c (.int .i64 0))),
 i1 3 (.mov false (.c (.int .i64 5)))] [2, 3])
 .ret)
 .skip))
 (.seq (.reg none [mv 30 4,
 mv 2 30,
 i1 3 (.mov false (.c (.int .i64 0)))] [2, 3])
 .ret)))))
def res_span_Add : List IRes := [⟨2, true, none⟩, ⟨3, true, none⟩]
theorem is_span_Add : fnIs Go.Proofs.Try.prog 130 31 res_span_Add ir_span_Add = true := by kernel_rfl
theorem span_Add_fn {l_0} {s : Store} {Q : List AV → Store → Prop}  : ok (span_Add l_0) (fun r => Q [.int .i64 r.1, .int .i64 r.2] s) → FN Go.Proofs.Try.prog 130 [.sl false 1 l_0.length (flat l_0)] s Q := by
  intro h
  refine FN.of (draw_ok mix) is_span_Add rfl (Nat.le_of_ble_eq_true rfl) ?_
  revert h
  rw [ir_span_Add, res_span_Add, span_Add]
  repeat' (first
    | with_reducible exact tt_to
    | with_reducible refine and_to ?_ ?_
    | with_reducible exact im_and
    | with_reducible refine im_to ?_
    | ((with_reducible refine join_toS (fun ((n12, over13) : Int × Bool) => ⟨[(4, .int .i64 n12), (5, .bool over13), (8, .sl false 1 l_0.length (flat l_0)), (9, .int .i64 (l_0.length : Int)), (10, .int .i64 t7)], [], s⟩) (fun J => ?_) ?_); rotate_left; rintro ⟨n12, over13⟩)
    | ((with_reducible refine iter_to (fun ((n5, over6, t7) : Int × Bool × Int) => ⟨[(4, .int .i64 n5), (5, .bool over6), (8, .sl false 1 l_0.length (flat l_0)), (9, .int .i64 (l_0.length : Int)), (10, .int .i64 t7)], [], s⟩) ?_ ?_); (first | exact rfl | simp -implicitDefEqProofs only [go_sem, start, startE, resVs, resV, resC, allV, retK, Nat.reduceBEq, Nat.reduceAdd, Nat.reduceMul, Nat.reduceLeDiff, Nat.reduceEqDiff, Nat.reduceBNe, Nat.ble_eq, UInt8.reduceToNat]); rintro J ⟨n5, over6, t7⟩)
    | ((with_reducible refine join_toS (fun ((n1, over2) : Int × Bool) => ⟨[(4, .int .i64 n1), (5, .bool over2)], [], s⟩) (fun J => ?_) ?_); rotate_left; rintro ⟨n1, over2⟩)
    | simp -implicitDefEqProofs only [go_sem, start, startE, resVs, resV, resC, allV, retK, Nat.reduceBEq, Nat.reduceAdd, Nat.reduceMul, Nat.reduceLeDiff, Nat.reduceEqDiff, Nat.reduceBNe, Nat.ble_eq, UInt8.reduceToNat])
theorem span_Add_fe {l_0} {s : Store} {r : Int × Int}  (h : span_Add l_0 = some r) : FE Go.Proofs.Try.prog 130 [.sl false 1 l_0.length (flat l_0)] s [.int .i64 r.1, .int .i64 r.2] s := span_Add_fn   ⟨r, h, rfl, rfl⟩
/-- catchword/hints.piece -/
def hints_piece (length_0 : Int) (ahead_1 : (List Int)) : Option (api_Span) :=
  bnd (span_Add ahead_1) fun r1 =>
  if (r1.2 != 0) || (decide (length_0 < 1)) then
    some (api_Span.mk 0 0)
  else
    bnd (span_Add [r1.1, length_0]) fun r2 =>
    if r2.2 != 0 then
      some (api_Span.mk 0 0)
    else
      some (api_Span.mk r1.1 r2.1)
def ir_hints_piece : IC :=
 (.seq (.reg none [i1 4 (.allocL [.int .i64 0, .int .i64 0])] [0, 1, 4])
 (.seq (.reg none [mt 9 1,
 i1 10 (.call 130 [(.t 9)]),
 i1 8 (.movT (.t 10)),
 i1 11 (.extract (.t 8) 0),
 i1 12 (.extract (.t 8) 1),
 mv 5 11,
 mv 6 12] [0, 4, 5, 6])
 (.seq (.seq (.reg none [mv 13 6,
 i1 14 (.bin .neq (.t 13) (.c (.int .i64 0))),
 mv 15 14,
 mvg 16 0 15 false,
 i1g 17 15 false (.bin .lss (.t 16) (.c (.int .i64 1))),
 i1 18 (.pick (.t 15) (.c (.bool true)) (.t 17))] [0, 4, 5, 18])
 (.cond (.t 18) (.seq (.reg none [i1 19 (.build [.int .i64 0, .int .i64 0] []),
 i0 (.store 2 (.t 4) (.t 19))] [4])
 .ret)
 .skip))
 (.seq (.reg none [mv 21 5,
 mv 22 0,
 i1 23 (.buildSl 1 2 [.int .i64 0, .int .i64 0] [(0, 1, (.t 21)), (1, 1, (.t 22))]),
 i1 24 (.call 130 [(.t 23)]),
 i1 20 (.movT (.t 24)),
 i1 25 (.extract (.t 20) 0),
 i1 26 (.extract (.t 20) 1),
 mv 7 25,
 mv 6 26] [4, 5, 6, 7])
 (.seq (.seq (.reg none [mv 27 6,
 i1 28 (.bin .neq (.t 27) (.c (.int .i64 0)))] [4, 5, 7, 28])
 (.cond (.t 28) (.seq (.reg none [i1 29 (.build [.int .i64 0, .int .i64 0] []),
 i0 (.store 2 (.t 4) (.t 29))] [4])
 .ret)
 .skip))
 (.seq (.reg none [mv 30 5,
 mv 31 7,
 i1 32 (.build [.int .i64 0, .int .i64 0] [(0, 1, (.t 30)), (1, 1, (.t 31))]),
 i0 (.store 2 (.t 4) (.t 32))] [4])
 .ret))))))
def res_hints_piece : List IRes := [⟨4, false, some (2, true)⟩]
theorem is_hints_piece : fnIs Go.Proofs.Try.prog 116 33 res_hints_piece ir_hints_piece = true := by kernel_rfl
theorem hints_piece_fn {length_0 ahead_1} {s : Store} {Q : List AV → Store → Prop}  : ok (hints_piece length_0 ahead_1) (fun r => Q [.agg [.int .i64 r.From, .int .i64 r.To]] s) → FN Go.Proofs.Try.prog 116 [.int .i64 length_0, .sl false 1 ahead_1.length (flat ahead_1)] s Q := by
  intro h
  refine FN.of (draw_ok mix) is_hints_piece rfl (Nat.le_of_ble_eq_true rfl) ?_
  revert h
  rw [ir_hints_piece, res_hints_piece, hints_piece]
  repeat' (first
    | with_reducible exact tt_to
    | with_reducible refine and_to ?_ ?_
    | with_reducible exact im_and
    | with_reducible refine im_to ?_
    | with_reducible refine call_to (fun _ (h : span_Add ahead_1 = some _) => span_Add_fe h) (fun r1 => ?_)
    | with_reducible refine call_to_q (fun _ (h : span_Add ahead_1 = some _) => span_Add_fe h) (fun _ => rfl) (fun r1 => ?_)
    | with_reducible refine call_to (fun _ (h : span_Add ahead_1 = some _) => (by refine FE_cast ?_ (span_Add_fe h); simp -implicitDefEqProofs only [go_sem, start, startE, resVs, resV, resC, allV, retK, Nat.reduceBEq, Nat.reduceAdd, Nat.reduceMul, Nat.reduceLeDiff, Nat.reduceEqDiff, Nat.reduceBNe, Nat.ble_eq, UInt8.reduceToNat])) (fun r1 => ?_)
    | with_reducible refine call_to_q (fun _ (h : span_Add ahead_1 = some _) => (by refine FE_cast ?_ (span_Add_fe h); simp -implicitDefEqProofs only [go_sem, start, startE, resVs, resV, resC, allV, retK, Nat.reduceBEq, Nat.reduceAdd, Nat.reduceMul, Nat.reduceLeDiff, Nat.reduceEqDiff, Nat.reduceBNe, Nat.ble_eq, UInt8.reduceToNat])) (fun _ => rfl) (fun r1 => ?_)
    | with_reducible refine call_to (fun _ (h : span_Add [r1.1, length_0] = some _) => span_Add_fe h) (fun r2 => ?_)
    | with_reducible refine call_to_q (fun _ (h : span_Add [r1.1, length_0] = some _) => span_Add_fe h) (fun _ => rfl) (fun r2 => ?_)
    | with_reducible refine call_to (fun _ (h : span_Add [r1.1, length_0] = some _) => (by refine FE_cast ?_ (span_Add_fe h); simp -implicitDefEqProofs only [go_sem, start, startE, resVs, resV, resC, allV, retK, Nat.reduceBEq, Nat.reduceAdd, Nat.reduceMul, Nat.reduceLeDiff, Nat.reduceEqDiff, Nat.reduceBNe, Nat.ble_eq, UInt8.reduceToNat])) (fun r2 => ?_)
    | with_reducible refine call_to_q (fun _ (h : span_Add [r1.1, length_0] = some _) => (by refine FE_cast ?_ (span_Add_fe h); simp -implicitDefEqProofs only [go_sem, start, startE, resVs, resV, resC, allV, retK, Nat.reduceBEq, Nat.reduceAdd, Nat.reduceMul, Nat.reduceLeDiff, Nat.reduceEqDiff, Nat.reduceBNe, Nat.ble_eq, UInt8.reduceToNat])) (fun _ => rfl) (fun r2 => ?_)
    | simp -implicitDefEqProofs only [go_sem, start, startE, resVs, resV, resC, allV, retK, Nat.reduceBEq, Nat.reduceAdd, Nat.reduceMul, Nat.reduceLeDiff, Nat.reduceEqDiff, Nat.reduceBNe, Nat.ble_eq, UInt8.reduceToNat])
theorem hints_piece_fe {length_0 ahead_1} {s : Store} {r : api_Span}  (h : hints_piece length_0 ahead_1 = some r) : FE Go.Proofs.Try.prog 116 [.int .i64 length_0, .sl false 1 ahead_1.length (flat ahead_1)] s [.agg [.int .i64 r.From, .int .i64 r.To]] s := hints_piece_fn   ⟨r, h, rfl, rfl⟩
structure api_PageHint where
  Objects : Int
  Length : Int
  Shared : (List Int)
instance : Enc api_PageHint := ⟨3, fun x => [.int .i64 x.Objects, .int .i64 x.Length, .sl false 1 x.Shared.length (flat x.Shared)], (api_PageHint.mk 0 0 []), by decide, fun _ => rfl, fun _ => rfl⟩
@[go_sem] theorem cells_api_PageHint (x : api_PageHint) : Enc.cells x = [.int .i64 x.Objects, .int .i64 x.Length, .sl false 1 x.Shared.length (flat x.Shared)] := rfl
@[go_sem] theorem w_api_PageHint : Enc.w api_PageHint = 3 := rfl
@[go_sem] theorem pad_api_PageHint (l : List api_PageHint) (i : Int) : pad [.int .i64 0, .int .i64 0, .sl false 1 0 []] (views (AB.sub (flat l) (i.toNat * 3) 3)) = [.int .i64 ((ix l i).Objects), .int .i64 ((ix l i).Length), .sl false 1 ((ix l i).Shared).length (flat ((ix l i).Shared))] := by
  rw [← cells_api_PageHint]; exact flat_pad _ 3 l i (by rw [cells_api_PageHint]; rfl) rfl
@[go_sem] theorem mk_api_PageHint (x : api_PageHint) : api_PageHint.mk x.Objects x.Length x.Shared = x := by cases x; rfl
structure api_Hints where
  FirstObject : Int
  FirstAt : Int
  Pages : (List api_PageHint)
  SharedObject : Int
  SharedAt : Int
  SharedFirst : Int
  Shared : (List Int)
instance : Enc api_Hints := ⟨7, fun x => [.int .i64 x.FirstObject, .int .i64 x.FirstAt, .sl false 3 x.Pages.length (flat x.Pages), .int .i64 x.SharedObject, .int .i64 x.SharedAt, .int .i64 x.SharedFirst, .sl false 1 x.Shared.length (flat x.Shared)], (api_Hints.mk 0 0 [] 0 0 0 []), by decide, fun _ => rfl, fun _ => rfl⟩
@[go_sem] theorem cells_api_Hints (x : api_Hints) : Enc.cells x = [.int .i64 x.FirstObject, .int .i64 x.FirstAt, .sl false 3 x.Pages.length (flat x.Pages), .int .i64 x.SharedObject, .int .i64 x.SharedAt, .int .i64 x.SharedFirst, .sl false 1 x.Shared.length (flat x.Shared)] := rfl
@[go_sem] theorem w_api_Hints : Enc.w api_Hints = 7 := rfl
@[go_sem] theorem pad_api_Hints (l : List api_Hints) (i : Int) : pad [.int .i64 0, .int .i64 0, .sl false 3 0 [], .int .i64 0, .int .i64 0, .int .i64 0, .sl false 1 0 []] (views (AB.sub (flat l) (i.toNat * 7) 7)) = [.int .i64 ((ix l i).FirstObject), .int .i64 ((ix l i).FirstAt), .sl false 3 ((ix l i).Pages).length (flat ((ix l i).Pages)), .int .i64 ((ix l i).SharedObject), .int .i64 ((ix l i).SharedAt), .int .i64 ((ix l i).SharedFirst), .sl false 1 ((ix l i).Shared).length (flat ((ix l i).Shared))] := by
  rw [← cells_api_Hints]; exact flat_pad _ 7 l i (by rw [cells_api_Hints]; rfl) rfl
@[go_sem] theorem mk_api_Hints (x : api_Hints) : api_Hints.mk x.FirstObject x.FirstAt x.Pages x.SharedObject x.SharedAt x.SharedFirst x.Shared = x := by cases x; rfl
structure api_Lin where
  Length : Int
  HintAt : Int
  HintLength : Int
  FirstObject : Int
  FirstEnd : Int
  Pages : Int
  Main : Int
  deriving DecidableEq
instance : Enc api_Lin := ⟨7, fun x => [.int .i64 x.Length, .int .i64 x.HintAt, .int .i64 x.HintLength, .int .i64 x.FirstObject, .int .i64 x.FirstEnd, .int .i64 x.Pages, .int .i64 x.Main], (api_Lin.mk 0 0 0 0 0 0 0), by decide, fun _ => rfl, fun _ => rfl⟩
@[go_sem] theorem cells_api_Lin (x : api_Lin) : Enc.cells x = [.int .i64 x.Length, .int .i64 x.HintAt, .int .i64 x.HintLength, .int .i64 x.FirstObject, .int .i64 x.FirstEnd, .int .i64 x.Pages, .int .i64 x.Main] := rfl
@[go_sem] theorem w_api_Lin : Enc.w api_Lin = 7 := rfl
@[go_sem] theorem pad_api_Lin (l : List api_Lin) (i : Int) : pad [.int .i64 0, .int .i64 0, .int .i64 0, .int .i64 0, .int .i64 0, .int .i64 0, .int .i64 0] (views (AB.sub (flat l) (i.toNat * 7) 7)) = [.int .i64 ((ix l i).Length), .int .i64 ((ix l i).HintAt), .int .i64 ((ix l i).HintLength), .int .i64 ((ix l i).FirstObject), .int .i64 ((ix l i).FirstEnd), .int .i64 ((ix l i).Pages), .int .i64 ((ix l i).Main)] := by
  rw [← cells_api_Lin]; exact flat_pad _ 7 l i (by rw [cells_api_Lin]; rfl) rfl
@[go_sem] theorem mk_api_Lin (x : api_Lin) : api_Lin.mk x.Length x.HintAt x.HintLength x.FirstObject x.FirstEnd x.Pages x.Main = x := by cases x; rfl
/-- catchword/hints.Own -/
def ir_hints_Own : IC :=
 (.seq (.reg none [i1 3 (.boxL 7 (.t 0)),
 i1 4 (.boxL 7 (.t 1)),
 i1 6 (.allocL [.int .i64 0, .int .i64 0]),
 i1 7 (.mov false (.c (.bool false)))] [2, 3, 4, 6])
 (.seq (.seq (.reg none [mv 12 2,
 i1 13 (.bin .lss (.t 12) (.c (.int .i64 0))),
 mv 14 13,
 mvg 15 2 14 false,
 i1g 16 14 false (.fieldAddr 2 (.t 3)),
 i1g 17 14 false (.load 1 false (.t 16)),
 i1g 18 14 false (.len 0 (.t 17)),
 i1g 19 14 false (.bin .geq (.t 15) (.t 18)),
 i1 20 (.pick (.t 14) (.c (.bool true)) (.t 19))] [2, 3, 4, 6, 20])
 (.cond (.t 20) (.seq (.reg none [i1 21 (.build [.int .i64 0, .int .i64 0] []),
 i0 (.store 2 (.t 6) (.t 21)),
 i1 7 (.mov false (.c (.bool false)))] [6, 7])
 .ret)
 .skip))
 (.seq (.reg none [i1 22 (.fieldAddr 1 (.t 3)),
 i1 23 (.load 1 false (.t 22)),
 i1 24 (.buildSlA 1 1 [.int .i64 0] [(0, 1, (.t 23))]),
 mv 8 24] [2, 3, 4, 6, 8])
 (.seq (.seq (.reg none [mv 25 2,
 i1 26 (.bin .gtr (.t 25) (.c (.int .i64 0)))] [2, 3, 4, 6, 8, 26])
 (.cond (.t 26) (.seq (.reg none [mv 27 8,
 i1 28 (.fieldAddr 4 (.t 4)),
 i1 29 (.load 1 false (.t 28)),
 i1 30 (.indexAddr [.int .i64 0] (.t 27) (.c (.int .i64 0))),
 i0 (.store 1 (.t 30) (.t 29))] [2, 3, 6, 8])
 (.seq (.reg none [i1 31 (.fieldAddr 2 (.t 3)),
 i1 32 (.load 1 false (.t 31)),
 mv 33 2,
 i1 34 (.slice 3 (.t 32) (some (.c (.int .i64 1))) (some (.t 33)) none),
 i1 35 (.len 0 (.t 34)),
 i1 36 (.mov false (.c (.int .i64 0)))] [2, 3, 6, 8, 34, 35, 36])
 (.block 0 (.loop [(2, false), (3, false), (6, false), (8, false), (34, false), (35, false), (36, false)] (.seq (.reg none [i1 37 (.bin .lss (.t 36) (.t 35))] [2, 3, 6, 8, 34, 35, 36, 37])
 (.seq (.cond (.t 37) .skip
 (.exit 0))
 (.seq (.block 1 (.seq (.reg none [i1 38 (.indexAddr [.int .i64 0, .int .i64 0, .sl false 1 0 []] (.t 34) (.t 36)),
 i1 39 (.load 3 true (.t 38)),
 i1 10 (.allocL [.int .i64 0, .int .i64 0, .sl true 1 0 []]),
 i0 (.store 3 (.t 10) (.t 39))] [2, 3, 6, 8, 10, 34, 35, 36])
 (.reg none [mv 40 8,
 i1 41 (.fieldAddr 1 (.t 10)),
 i1 42 (.load 1 false (.t 41)),
 i1 43 (.buildSl 1 1 [.int .i64 0] [(0, 1, (.t 42))]),
 i1 44 (.appendA 1 8 [.int .i64 0] (.t 40) (.t 43)),
 mv 8 44] [2, 3, 6, 8, 34, 35, 36])))
 (.reg none [i1 45 (.bin .add (.t 36) (.c (.int .i64 1))),
 mv 36 45] [2, 3, 6, 8, 34, 35, 36]))))))))
 .skip))
 (.seq (.reg none [i1 46 (.fieldAddr 2 (.t 3)),
 i1 47 (.load 1 false (.t 46)),
 mv 48 2,
 i1 49 (.indexAddr [.int .i64 0, .int .i64 0, .sl false 1 0 []] (.t 47) (.t 48)),
 i1 50 (.fieldAddr 1 (.t 49)),
 i1 51 (.load 1 false (.t 50)),
 i1 52 (.frz 1 true (.t 8)),
 i1 53 (.call 116 [(.t 51), (.t 52)]),
 i1 11 (.allocL [.int .i64 0, .int .i64 0]),
 i0 (.store 2 (.t 11) (.t 53))] [6, 11])
 (.seq (.regT [6] 6 [i1 54 (.load 2 true (.t 11)),
 i1 55 (.load 2 true (.t 11)),
 i1 56 (.build [.int .i64 0, .int .i64 0] []),
 i1 57 (.eqA 2 true (.t 55) (.t 56)),
 i0 (.store 2 (.t 6) (.t 54)),
 mv 7 57] [6, 7])
 .ret))))))
def res_hints_Own : List IRes := [⟨6, false, some (2, true)⟩, ⟨7, true, none⟩]
theorem is_hints_Own : fnIs Go.Proofs.Try.prog 85 58 res_hints_Own ir_hints_Own = true := by kernel_rfl

def ownBody (L : List api_PageHint) : (List Int) × Int → Option (((List Int) × Int) ⊕ (List Int)) := fun (at_, k) =>
  if decide (k < (L.length : Int)) then
    need (0 ≤ k ∧ k < L.length) <|
    need ((at_.length + 1) * 8 ≤ room) <|
    some (.inl (at_ ++ [(ix L k).Length], w64 (k + 1)))
  else some (.inr at_)
def ownAhead (h : api_Hints) (l : api_Lin) (p : Int) : Option (List Int) :=
  if decide (p > 0) then
    need (0 ≤ (1 : Int) ∧ 1 ≤ p ∧ p ≤ h.Pages.length) <|
    iter (ownBody (part h.Pages 1 p)) ([l.FirstEnd], 0)
  else some [h.FirstAt]
def hints_Own (h : api_Hints) (l : api_Lin) (p : Int) : Option (api_Span × Bool) :=
  if (decide (p < 0)) || (decide (p ≥ (h.Pages.length : Int))) then some (⟨0, 0⟩, false)
  else
    bnd (ownAhead h l p) fun at_ =>
    need (0 ≤ p ∧ p < h.Pages.length) <|
    bnd (hints_piece ((ix h.Pages p).Length) at_) fun x =>
    some (x, ((x.From == 0) && ((x.To == 0) && true)) != true)
theorem hints_Own_fn {h : api_Hints} {l : api_Lin} {p : Int} {s : Store} {Q : List AV → Store → Prop} : ok (hints_Own h l p) (fun r => Q [.agg [.int .i64 r.1.From, .int .i64 r.1.To], .bool r.2] s) → FN Go.Proofs.Try.prog 85 [.agg [.int .i64 h.FirstObject, .int .i64 h.FirstAt, .sl false 3 h.Pages.length (flat h.Pages), .int .i64 h.SharedObject, .int .i64 h.SharedAt, .int .i64 h.SharedFirst, .sl false 1 h.Shared.length (flat h.Shared)], .agg [.int .i64 l.Length, .int .i64 l.HintAt, .int .i64 l.HintLength, .int .i64 l.FirstObject, .int .i64 l.FirstEnd, .int .i64 l.Pages, .int .i64 l.Main], .int .i64 p] s Q := by
  intro hh
  refine FN.weak ?_
  refine FN.of (draw_ok mix) is_hints_Own rfl (Nat.le_of_ble_eq_true rfl) ?_
  revert hh
  rw [ir_hints_Own, res_hints_Own, hints_Own]
  simp -implicitDefEqProofs only [go_sem, start, startE, resVs, resV, resC, allV, retK, Nat.reduceBEq, Nat.reduceAdd, Nat.reduceMul, Nat.reduceLeDiff, Nat.reduceEqDiff, Nat.reduceBNe, Nat.ble_eq, UInt8.reduceToNat]
  refine and_to (im_to fun hq => ⟨s, Sub.refl s, hq⟩) (im_to ?_)
  intro hh b hb
  unfold ownAhead at hh
  simp -implicitDefEqProofs only [go_sem, start, startE, resVs, resV, resC, allV, retK, Nat.reduceBEq, Nat.reduceAdd, Nat.reduceMul, Nat.reduceLeDiff, Nat.reduceEqDiff, Nat.reduceBNe, Nat.ble_eq, UInt8.reduceToNat] at hh
  refine ⟨fun hp => ?_, fun hp => ?_⟩
  · have hh := hh.1 hp
    refine ⟨by decide, hh.1, ?_⟩
    refine iter_toR (fun st τ => ∃ (s' : Store) (r : RowP), τ = ⟨[(2, .int .i64 p), (3, .loc [.int .i64 h.FirstObject, .int .i64 h.FirstAt, .sl false 3 h.Pages.length (flat h.Pages), .int .i64 h.SharedObject, .int .i64 h.SharedAt, .int .i64 h.SharedFirst, .sl false 1 h.Shared.length (flat h.Shared)]), (6, .loc [.int .i64 0, .int .i64 0]), (8, rowA r st.1.length), (34, .sl false 3 (part h.Pages 1 p).length (flat (part h.Pages 1 p))), (35, .int .i64 ((part h.Pages 1 p).length : Nat)), (36, .int .i64 st.2)], [], rowS s' r st.1⟩ ∧ Sub s s' ∧ RowOK s' r st.1)
      ⟨s, some (b, 1, []), rfl, Sub.refl s, (show RowOK s (some (b, 1, [])) [l.FirstEnd] from ⟨hb, Nat.le_refl 1, Nat.le_refl 1, rfl, rfl⟩)⟩ ?_ hh.2
    rintro J ⟨at_, k⟩ τ ⟨s', r, rfl, hs, hok⟩
    have hok : RowOK s' r at_ := hok
    rw [ownBody]
    simp -implicitDefEqProofs only [go_sem, start, startE, resVs, resV, resC, allV, retK, Nat.reduceBEq, Nat.reduceAdd, Nat.reduceMul, Nat.reduceLeDiff, Nat.reduceEqDiff, Nat.reduceBNe, Nat.ble_eq, UInt8.reduceToNat]
    refine and_to (im_to ?_) (im_to ?_)
    · rintro ⟨h1, h2, hJ⟩
      refine ⟨h1, ?_⟩
      rw [srcV_sl]
      refine app_row (z := (0 : Int)) (v := (ix (part h.Pages 1 p) k).Length) rfl hok rfl h2 fun s2 r' q1 q2 => ?_
      simp -implicitDefEqProofs only [go_sem, start, startE, resVs, resV, resC, allV, retK, Nat.reduceBEq, Nat.reduceAdd, Nat.reduceMul, Nat.reduceLeDiff, Nat.reduceEqDiff, Nat.reduceBNe, Nat.ble_eq, UInt8.reduceToNat]
      have hJ2 := hJ _ ⟨s2, r', rfl, fun b o hb => q1 b o (hs b o hb), q2⟩
      exact hJ2
    · rintro ⟨h1, h2⟩
      refine ⟨h1, frz_row (s := s') (r := r) (l := at_) rfl hok rfl ?_⟩
      simp -implicitDefEqProofs only [go_sem, start, startE, resVs, resV, resC, allV, retK, Nat.reduceBEq, Nat.reduceAdd, Nat.reduceMul, Nat.reduceLeDiff, Nat.reduceEqDiff, Nat.reduceBNe, Nat.ble_eq, UInt8.reduceToNat]
      refine call_to (fun _ h => hints_piece_fe h) (fun x => ?_) h2
      simp -implicitDefEqProofs only [go_sem, start, startE, resVs, resV, resC, allV, retK, Nat.reduceBEq, Nat.reduceAdd, Nat.reduceMul, Nat.reduceLeDiff, Nat.reduceEqDiff, Nat.reduceBNe, Nat.ble_eq, UInt8.reduceToNat]
      exact fun hq => ⟨s, hs, hq⟩
  · have hh := hh.2 hp
    refine ⟨hh.1, frz_row (s := s) (r := some (b, 1, [])) (l := [h.FirstAt]) rfl ⟨hb, Nat.le_refl 1, Nat.le_refl 1, rfl, rfl⟩ rfl ?_⟩
    simp -implicitDefEqProofs only [go_sem, start, startE, resVs, resV, resC, allV, retK, Nat.reduceBEq, Nat.reduceAdd, Nat.reduceMul, Nat.reduceLeDiff, Nat.reduceEqDiff, Nat.reduceBNe, Nat.ble_eq, UInt8.reduceToNat]
    refine call_to (fun _ h => (by refine FE_cast ?_ (hints_piece_fe h); simp -implicitDefEqProofs only [go_sem, start, startE, resVs, resV, resC, allV, retK, Nat.reduceBEq, Nat.reduceAdd, Nat.reduceMul, Nat.reduceLeDiff, Nat.reduceEqDiff, Nat.reduceBNe, Nat.ble_eq, UInt8.reduceToNat])) (fun x => ?_) hh.2
    simp -implicitDefEqProofs only [go_sem, start, startE, resVs, resV, resC, allV, retK, Nat.reduceBEq, Nat.reduceAdd, Nat.reduceMul, Nat.reduceLeDiff, Nat.reduceEqDiff, Nat.reduceBNe, Nat.ble_eq, UInt8.reduceToNat]
    exact fun hq => ⟨s, Sub.refl s, hq⟩
theorem hints_Own_fe {h : api_Hints} {l : api_Lin} {p : Int} {s : Store} {r : api_Span × Bool} (hh : hints_Own h l p = some r) : FE Go.Proofs.Try.prog 85 [.agg [.int .i64 h.FirstObject, .int .i64 h.FirstAt, .sl false 3 h.Pages.length (flat h.Pages), .int .i64 h.SharedObject, .int .i64 h.SharedAt, .int .i64 h.SharedFirst, .sl false 1 h.Shared.length (flat h.Shared)], .agg [.int .i64 l.Length, .int .i64 l.HintAt, .int .i64 l.HintLength, .int .i64 l.FirstObject, .int .i64 l.FirstEnd, .int .i64 l.Pages, .int .i64 l.Main], .int .i64 p] s [.agg [.int .i64 r.1.From, .int .i64 r.1.To], .bool r.2] s := hints_Own_fn ⟨r, hh, rfl, rfl⟩

end Go.AB
end

section
set_option maxRecDepth 4000
namespace Go.AB
open Go
theorem span_Join_fe {l : List api_Span} {gap : Int} {s : Store} {r : List api_Span} (h : span_Join l gap = some r) : FE Go.Proofs.Try.prog 80 [.sl false 2 l.length (flat l), .int .i64 gap] s [.sl true 2 r.length (flat r)] s := span_Join_fn ⟨r, h, rfl, rfl⟩
theorem ref35_Joined_fe {l but : List api_Span} {s : Store} {r : List api_Span} (h : ref35_Joined l but = some r) : FE Go.Proofs.Try.prog 81 [.sl false 2 l.length (flat l), .sl false 2 but.length (flat but)] s [.sl true 2 r.length (flat r)] s := ref35_Joined_fn ⟨r, h, rfl, rfl⟩
@[go_sem] theorem pad_ph0 (l : List api_PageHint) : pad [.int .i64 0, .int .i64 0, .sl false 1 0 []] (views (AB.sub (flat l) 0 3)) = [.int .i64 ((ix l 0).Objects), .int .i64 ((ix l 0).Length), .sl false 1 ((ix l 0).Shared).length (flat ((ix l 0).Shared))] := pad_api_PageHint l 0
/-- catchword/span.Clip -/
def span_Clip (x_0 : api_Span) (to_1 : Int) : Option (api_Span) :=
  bnd (span_empty (api_Span.mk x_0.From (min x_0.To to_1))) fun r1 =>
  if r1 then
    some (api_Span.mk 0 0)
  else
    some (api_Span.mk x_0.From (min x_0.To to_1))
def ir_span_Clip : IC :=
 (.seq (.reg none [i1 2 (.boxL 2 (.t 0)),
 i1 4 (.allocL [.int .i64 0, .int .i64 0])] [1, 2, 4])
 (.seq (.reg none [i1 5 (.fieldAddr 1 (.t 2)),
 i1 6 (.load 1 false (.t 5)),
 mv 7 1,
 i1 8 (.minmax false [(.t 6), (.t 7)]),
 i1 9 (.fieldAddr 1 (.t 2)),
 i0 (.store 1 (.t 9) (.t 8))] [2, 4])
 (.seq (.seq (.reg none [i1 10 (.load 2 true (.t 2)),
 i1 11 (.call 111 [(.t 10)])] [2, 4, 11])
 (.cond (.t 11) (.seq (.reg none [i1 12 (.build [.int .i64 0, .int .i64 0] []),
 i0 (.store 2 (.t 4) (.t 12))] [4])
 .ret)
 .skip))
 (.seq (.reg none [i1 13 (.load 2 true (.t 2)),
 i0 (.store 2 (.t 4) (.t 13))] [4])
 .ret))))
def res_span_Clip : List IRes := [⟨4, false, some (2, true)⟩]
theorem is_span_Clip : fnIs Go.Proofs.Try.prog 94 14 res_span_Clip ir_span_Clip = true := by kernel_rfl
theorem span_Clip_fn {x_0 to_1} {s : Store} {Q : List AV → Store → Prop}  : ok (span_Clip x_0 to_1) (fun r => Q [.agg [.int .i64 r.From, .int .i64 r.To]] s) → FN Go.Proofs.Try.prog 94 [.agg [.int .i64 x_0.From, .int .i64 x_0.To], .int .i64 to_1] s Q := by
  intro h
  refine FN.of (draw_ok mix) is_span_Clip rfl (Nat.le_of_ble_eq_true rfl) ?_
  revert h
  rw [ir_span_Clip, res_span_Clip, span_Clip]
  repeat' (first
    | with_reducible exact tt_to
    | with_reducible refine and_to ?_ ?_
    | with_reducible exact im_and
    | with_reducible refine im_to ?_
    | with_reducible refine call_to (fun _ (h : span_empty (api_Span.mk x_0.From (min x_0.To to_1)) = some _) => span_empty_fe h) (fun r1 => ?_)
    | with_reducible refine call_to_q (fun _ (h : span_empty (api_Span.mk x_0.From (min x_0.To to_1)) = some _) => span_empty_fe h) (fun _ => rfl) (fun r1 => ?_)
    | with_reducible refine call_to (fun _ (h : span_empty (api_Span.mk x_0.From (min x_0.To to_1)) = some _) => (by refine FE_cast ?_ (span_empty_fe h); simp -implicitDefEqProofs only [go_sem, start, startE, resVs, resV, resC, allV, retK, Nat.reduceBEq, Nat.reduceAdd, Nat.reduceMul, Nat.reduceLeDiff, Nat.reduceEqDiff, Nat.reduceBNe, Nat.ble_eq, UInt8.reduceToNat])) (fun r1 => ?_)
    | with_reducible refine call_to_q (fun _ (h : span_empty (api_Span.mk x_0.From (min x_0.To to_1)) = some _) => (by refine FE_cast ?_ (span_empty_fe h); simp -implicitDefEqProofs only [go_sem, start, startE, resVs, resV, resC, allV, retK, Nat.reduceBEq, Nat.reduceAdd, Nat.reduceMul, Nat.reduceLeDiff, Nat.reduceEqDiff, Nat.reduceBNe, Nat.ble_eq, UInt8.reduceToNat])) (fun _ => rfl) (fun r1 => ?_)
    | simp -implicitDefEqProofs only [go_sem, start, startE, resVs, resV, resC, allV, retK, Nat.reduceBEq, Nat.reduceAdd, Nat.reduceMul, Nat.reduceLeDiff, Nat.reduceEqDiff, Nat.reduceBNe, Nat.ble_eq, UInt8.reduceToNat])
theorem span_Clip_fe {x_0 to_1} {s : Store} {r : api_Span}  (h : span_Clip x_0 to_1 = some r) : FE Go.Proofs.Try.prog 94 [.agg [.int .i64 x_0.From, .int .i64 x_0.To], .int .i64 to_1] s [.agg [.int .i64 r.From, .int .i64 r.To]] s := span_Clip_fn   ⟨r, h, rfl, rfl⟩
/-- catchword/hints.Group -/
def hints_Group (h_0 : api_Hints) (id_1 : Int) : Option (api_Span × Bool) :=
  if (((decide (id_1 < 0)) || (decide (id_1 ≥ (h_0.Shared.length : Int)))) || (decide (h_0.SharedFirst < 0))) || (decide (h_0.SharedFirst > (h_0.Shared.length : Int))) then
    some ((api_Span.mk 0 0), false)
  else
    need (0 ≤ (0 : Int) ∧ 0 ≤ min id_1 h_0.SharedFirst ∧ min id_1 h_0.SharedFirst ≤ h_0.Shared.length) <|
    need (([h_0.FirstAt].length + (part h_0.Shared 0 (min id_1 h_0.SharedFirst)).length) * 8 ≤ room) <|
    jn (
      if decide (id_1 ≥ h_0.SharedFirst) then
        need (0 ≤ h_0.SharedFirst ∧ h_0.SharedFirst ≤ id_1 ∧ id_1 ≤ h_0.Shared.length) <|
        need (([h_0.SharedAt].length + (part h_0.Shared h_0.SharedFirst id_1).length) * 8 ≤ room) <|
        some ([h_0.SharedAt] ++ (part h_0.Shared h_0.SharedFirst id_1))
      else
        some ([h_0.FirstAt] ++ (part h_0.Shared 0 (min id_1 h_0.SharedFirst)))) fun (ahead4 : (List Int)) =>
    need (0 ≤ id_1 ∧ id_1 < h_0.Shared.length) <|
    bnd (hints_piece (ix h_0.Shared id_1) ahead4) fun r5 =>
    some (r5, ((r5.From == 0) && ((r5.To == 0) && true)) != true)
def ir_hints_Group : IC :=
 (.seq (.reg none [i1 2 (.boxL 7 (.t 0)),
 i1 4 (.allocL [.int .i64 0, .int .i64 0]),
 i1 5 (.mov false (.c (.bool false)))] [1, 2, 4])
 (.seq (.seq (.reg none [mv 8 1,
 i1 9 (.bin .lss (.t 8) (.c (.int .i64 0))),
 mv 10 9,
 mvg 11 1 10 false,
 i1g 12 10 false (.fieldAddr 6 (.t 2)),
 i1g 13 10 false (.load 1 false (.t 12)),
 i1g 14 10 false (.len 0 (.t 13)),
 i1g 15 10 false (.bin .geq (.t 11) (.t 14)),
 i1 16 (.pick (.t 10) (.c (.bool true)) (.t 15)),
 mv 17 16,
 i1g 18 17 false (.fieldAddr 5 (.t 2)),
 i1g 19 17 false (.load 1 false (.t 18)),
 i1g 20 17 false (.bin .lss (.t 19) (.c (.int .i64 0))),
 i1 21 (.pick (.t 17) (.c (.bool true)) (.t 20)),
 mv 22 21,
 i1g 23 22 false (.fieldAddr 5 (.t 2)),
 i1g 24 22 false (.load 1 false (.t 23)),
 i1g 25 22 false (.fieldAddr 6 (.t 2)),
 i1g 26 22 false (.load 1 false (.t 25)),
 i1g 27 22 false (.len 0 (.t 26)),
 i1g 28 22 false (.bin .gtr (.t 24) (.t 27)),
 i1 29 (.pick (.t 22) (.c (.bool true)) (.t 28))] [1, 2, 4, 29])
 (.cond (.t 29) (.seq (.reg none [i1 30 (.build [.int .i64 0, .int .i64 0] []),
 i0 (.store 2 (.t 4) (.t 30)),
 i1 5 (.mov false (.c (.bool false)))] [4, 5])
 .ret)
 .skip))
 (.seq (.reg (some 10) [i1 31 (.fieldAddr 1 (.t 2)),
 i1 32 (.load 1 false (.t 31)),
 i1 33 (.buildSl 1 1 [.int .i64 0] [(0, 1, (.t 32))]),
 i1 34 (.fieldAddr 6 (.t 2)),
 i1 35 (.load 1 false (.t 34)),
 mv 36 1,
 i1 37 (.fieldAddr 5 (.t 2)),
 i1 38 (.load 1 false (.t 37)),
 i1 39 (.minmax false [(.t 36), (.t 38)]),
 i1 40 (.slice 1 (.t 35) none (some (.t 39)) none),
 i1 41 (.append 1 8 (.t 33) (.t 40)),
 mt 6 41] [1, 2, 4, 6])
 (.join [(1, false), (2, false), (4, false), (6, false)] (.seq (.reg none [mv 42 1,
 i1 43 (.fieldAddr 5 (.t 2)),
 i1 44 (.load 1 false (.t 43)),
 i1 45 (.bin .geq (.t 42) (.t 44))] [1, 2, 4, 6, 45])
 (.cond (.t 45) (.reg (some 9) [i1 46 (.fieldAddr 4 (.t 2)),
 i1 47 (.load 1 false (.t 46)),
 i1 48 (.buildSl 1 1 [.int .i64 0] [(0, 1, (.t 47))]),
 i1 49 (.fieldAddr 6 (.t 2)),
 i1 50 (.load 1 false (.t 49)),
 i1 51 (.fieldAddr 5 (.t 2)),
 i1 52 (.load 1 false (.t 51)),
 mv 53 1,
 i1 54 (.slice 1 (.t 50) (some (.t 52)) (some (.t 53)) none),
 i1 55 (.append 1 8 (.t 48) (.t 54)),
 mt 6 55] [1, 2, 4, 6])
 .skip))
 (.seq (.reg none [i1 56 (.fieldAddr 6 (.t 2)),
 i1 57 (.load 1 false (.t 56)),
 mv 58 1,
 i1 59 (.indexAddr [.int .i64 0] (.t 57) (.t 58)),
 i1 60 (.load 1 false (.t 59)),
 mt 61 6,
 i1 62 (.call 116 [(.t 60), (.t 61)]),
 i1 7 (.allocL [.int .i64 0, .int .i64 0]),
 i0 (.store 2 (.t 7) (.t 62))] [4, 7])
 (.seq (.regT [4] 6 [i1 63 (.load 2 true (.t 7)),
 i1 64 (.load 2 true (.t 7)),
 i1 65 (.build [.int .i64 0, .int .i64 0] []),
 i1 66 (.eqA 2 true (.t 64) (.t 65)),
 i0 (.store 2 (.t 4) (.t 63)),
 mv 5 66] [4, 5])
 .ret))))))
def res_hints_Group : List IRes := [⟨4, false, some (2, true)⟩, ⟨5, true, none⟩]
theorem is_hints_Group : fnIs Go.Proofs.Try.prog 86 67 res_hints_Group ir_hints_Group = true := by kernel_rfl
theorem hints_Group_fn {h_0 id_1} {s : Store} {Q : List AV → Store → Prop}  : ok (hints_Group h_0 id_1) (fun r => Q [.agg [.int .i64 r.1.From, .int .i64 r.1.To], .bool r.2] s) → FN Go.Proofs.Try.prog 86 [.agg [.int .i64 h_0.FirstObject, .int .i64 h_0.FirstAt, .sl false 3 h_0.Pages.length (flat h_0.Pages), .int .i64 h_0.SharedObject, .int .i64 h_0.SharedAt, .int .i64 h_0.SharedFirst, .sl false 1 h_0.Shared.length (flat h_0.Shared)], .int .i64 id_1] s Q := by
  intro h
  refine FN.of (draw_ok mix) is_hints_Group rfl (Nat.le_of_ble_eq_true rfl) ?_
  revert h
  rw [ir_hints_Group, res_hints_Group, hints_Group]
  repeat' (first
    | with_reducible exact tt_to
    | ((with_reducible refine b_to ?_ ?_); exact rfl)
    | ((with_reducible refine n_to ?_ ?_); exact rfl)
    | with_reducible refine and_to ?_ ?_
    | with_reducible exact im_and
    | with_reducible refine im_to ?_
    | with_reducible refine call_to (fun _ (h : hints_piece (ix h_0.Shared id_1) ahead4 = some _) => hints_piece_fe h) (fun r5 => ?_)
    | with_reducible refine call_to_q (fun _ (h : hints_piece (ix h_0.Shared id_1) ahead4 = some _) => hints_piece_fe h) (fun _ => rfl) (fun r5 => ?_)
    | with_reducible refine call_to (fun _ (h : hints_piece (ix h_0.Shared id_1) ahead4 = some _) => (by refine FE_cast ?_ (hints_piece_fe h); simp -implicitDefEqProofs only [go_sem, start, startE, resVs, resV, resC, allV, retK, Nat.reduceBEq, Nat.reduceAdd, Nat.reduceMul, Nat.reduceLeDiff, Nat.reduceEqDiff, Nat.reduceBNe, Nat.ble_eq, UInt8.reduceToNat])) (fun r5 => ?_)
    | with_reducible refine call_to_q (fun _ (h : hints_piece (ix h_0.Shared id_1) ahead4 = some _) => (by refine FE_cast ?_ (hints_piece_fe h); simp -implicitDefEqProofs only [go_sem, start, startE, resVs, resV, resC, allV, retK, Nat.reduceBEq, Nat.reduceAdd, Nat.reduceMul, Nat.reduceLeDiff, Nat.reduceEqDiff, Nat.reduceBNe, Nat.ble_eq, UInt8.reduceToNat])) (fun _ => rfl) (fun r5 => ?_)
    | ((with_reducible refine join_to (fun (ahead4 : (List Int)) => ⟨[(1, .int .i64 id_1), (2, .loc [.int .i64 h_0.FirstObject, .int .i64 h_0.FirstAt, .sl false 3 h_0.Pages.length (flat h_0.Pages), .int .i64 h_0.SharedObject, .int .i64 h_0.SharedAt, .int .i64 h_0.SharedFirst, .sl false 1 h_0.Shared.length (flat h_0.Shared)]), (4, .loc [.int .i64 0, .int .i64 0]), (6, .sl true 1 ahead4.length (flat ahead4))], [], s⟩) (fun J => ?_) ?_); rotate_left; rintro ahead4)
    | simp -implicitDefEqProofs only [go_sem, start, startE, resVs, resV, resC, allV, retK, Nat.reduceBEq, Nat.reduceAdd, Nat.reduceMul, Nat.reduceLeDiff, Nat.reduceEqDiff, Nat.reduceBNe, Nat.ble_eq, UInt8.reduceToNat]
    | (rw [Nat.add_comm 1]; with_reducible exact tt_to))
theorem hints_Group_fe {h_0 id_1} {s : Store} {r : api_Span × Bool}  (h : hints_Group h_0 id_1 = some r) : FE Go.Proofs.Try.prog 86 [.agg [.int .i64 h_0.FirstObject, .int .i64 h_0.FirstAt, .sl false 3 h_0.Pages.length (flat h_0.Pages), .int .i64 h_0.SharedObject, .int .i64 h_0.SharedAt, .int .i64 h_0.SharedFirst, .sl false 1 h_0.Shared.length (flat h_0.Shared)], .int .i64 id_1] s [.agg [.int .i64 r.1.From, .int .i64 r.1.To], .bool r.2] s := hints_Group_fn   ⟨r, h, rfl, rfl⟩
/-- catchword/ranges.Chunk -/
def ranges_Chunk (at_0 : Int) (size_1 : Int) (total_2 : Int) : Option (api_Span) :=
  if (((decide (at_0 < 0)) || (decide (at_0 ≥ total_2))) || (decide (size_1 < 1))) || (decide (total_2 > 2147483647)) then
    some (api_Span.mk 0 0)
  else
    need (size_1 ≠ 0) <|
    if decide (size_1 > w64 (total_2 - (w64 (at_0 - (Int.tmod at_0 size_1))))) then
      some (api_Span.mk (w64 (at_0 - (Int.tmod at_0 size_1))) total_2)
    else
      some (api_Span.mk (w64 (at_0 - (Int.tmod at_0 size_1))) (w64 ((w64 (at_0 - (Int.tmod at_0 size_1))) + size_1)))
def ir_ranges_Chunk : IC :=
 (.seq (.reg none [i1 6 (.allocL [.int .i64 0, .int .i64 0])] [0, 1, 2, 6])
 (.seq (.seq (.reg none [mv 8 0,
 i1 9 (.bin .lss (.t 8) (.c (.int .i64 0))),
 mv 10 9,
 mvg 11 0 10 false,
 mvg 12 2 10 false,
 i1g 13 10 false (.bin .geq (.t 11) (.t 12)),
 i1 14 (.pick (.t 10) (.c (.bool true)) (.t 13)),
 mv 15 14,
 mvg 16 1 15 false,
 i1g 17 15 false (.bin .lss (.t 16) (.c (.int .i64 1))),
 i1 18 (.pick (.t 15) (.c (.bool true)) (.t 17)),
 mv 19 18,
 mvg 20 2 19 false,
 i1g 21 19 false (.bin .gtr (.t 20) (.c (.int .i64 2147483647))),
 i1 22 (.pick (.t 19) (.c (.bool true)) (.t 21))] [0, 1, 2, 6, 22])
 (.cond (.t 22) (.seq (.reg none [i1 23 (.build [.int .i64 0, .int .i64 0] []),
 i0 (.store 2 (.t 6) (.t 23))] [6])
 .ret)
 .skip))
 (.seq (.reg none [mv 24 0,
 mv 25 0,
 mv 26 1,
 i1 27 (.bin .rem (.t 25) (.t 26)),
 i1 28 (.bin .sub (.t 24) (.t 27)),
 mv 7 28] [1, 2, 6, 7])
 (.seq (.seq (.reg none [mv 29 1,
 mv 30 2,
 mv 31 7,
 i1 32 (.bin .sub (.t 30) (.t 31)),
 i1 33 (.bin .gtr (.t 29) (.t 32))] [1, 2, 6, 7, 33])
 (.cond (.t 33) (.seq (.reg none [mv 34 7,
 mv 35 2,
 i1 36 (.build [.int .i64 0, .int .i64 0] [(0, 1, (.t 34)), (1, 1, (.t 35))]),
 i0 (.store 2 (.t 6) (.t 36))] [6])
 .ret)
 .skip))
 (.seq (.reg none [mv 37 7,
 mv 38 7,
 mv 39 1,
 i1 40 (.bin .add (.t 38) (.t 39)),
 i1 41 (.build [.int .i64 0, .int .i64 0] [(0, 1, (.t 37)), (1, 1, (.t 40))]),
 i0 (.store 2 (.t 6) (.t 41))] [6])
 .ret)))))
def res_ranges_Chunk : List IRes := [⟨6, false, some (2, true)⟩]
theorem is_ranges_Chunk : fnIs Go.Proofs.Try.prog 44 42 res_ranges_Chunk ir_ranges_Chunk = true := by kernel_rfl
theorem ranges_Chunk_fn {at_0 size_1 total_2} {s : Store} {Q : List AV → Store → Prop}  : ok (ranges_Chunk at_0 size_1 total_2) (fun r => Q [.agg [.int .i64 r.From, .int .i64 r.To]] s) → FN Go.Proofs.Try.prog 44 [.int .i64 at_0, .int .i64 size_1, .int .i64 total_2] s Q := by
  intro h
  refine FN.of (draw_ok mix) is_ranges_Chunk rfl (Nat.le_of_ble_eq_true rfl) ?_
  revert h
  rw [ir_ranges_Chunk, res_ranges_Chunk, ranges_Chunk]
  repeat' (first
    | with_reducible exact tt_to
    | with_reducible refine and_to ?_ ?_
    | with_reducible exact im_and
    | with_reducible refine im_to ?_
    | simp -implicitDefEqProofs only [go_sem, start, startE, resVs, resV, resC, allV, retK, Nat.reduceBEq, Nat.reduceAdd, Nat.reduceMul, Nat.reduceLeDiff, Nat.reduceEqDiff, Nat.reduceBNe, Nat.ble_eq, UInt8.reduceToNat])
theorem ranges_Chunk_fe {at_0 size_1 total_2} {s : Store} {r : api_Span}  (h : ranges_Chunk at_0 size_1 total_2 = some r) : FE Go.Proofs.Try.prog 44 [.int .i64 at_0, .int .i64 size_1, .int .i64 total_2] s [.agg [.int .i64 r.From, .int .i64 r.To]] s := ranges_Chunk_fn   ⟨r, h, rfl, rfl⟩
/-- catchword/ranges.Ahead -/
def ranges_Ahead (l_0 : api_Lin) : Option ((List api_Span)) :=
  bnd (span_Join [(api_Span.mk 1024 l_0.FirstEnd), (api_Span.mk l_0.Main l_0.Length)] 0) fun r1 =>
  some r1
def ir_ranges_Ahead : IC :=
 (.seq (.reg none [i1 1 (.boxL 7 (.t 0)),
 i1 2 (.mov true (.c (.sl true 2 0 [])))] [1])
 (.seq (.reg none [i1 3 (.fieldAddr 4 (.t 1)),
 i1 4 (.load 1 false (.t 3)),
 i1 5 (.build [.int .i64 0, .int .i64 0] [(0, 1, (.c (.int .i64 1024))), (1, 1, (.t 4))]),
 i1 6 (.fieldAddr 6 (.t 1)),
 i1 7 (.load 1 false (.t 6)),
 i1 8 (.fieldAddr 0 (.t 1)),
 i1 9 (.load 1 false (.t 8)),
 i1 10 (.build [.int .i64 0, .int .i64 0] [(0, 1, (.t 7)), (1, 1, (.t 9))]),
 i1 11 (.buildSl 2 2 [.int .i64 0, .int .i64 0, .int .i64 0, .int .i64 0] [(0, 2, (.t 5)), (2, 2, (.t 10))]),
 i1 12 (.call 80 [(.t 11), (.c (.int .i64 0))]),
 mt 2 12] [2])
 .ret))
def res_ranges_Ahead : List IRes := [⟨2, false, none⟩]
theorem is_ranges_Ahead : fnIs Go.Proofs.Try.prog 38 13 res_ranges_Ahead ir_ranges_Ahead = true := by kernel_rfl
theorem ranges_Ahead_fn {l_0} {s : Store} {Q : List AV → Store → Prop}  : ok (ranges_Ahead l_0) (fun r => Q [.sl false 2 r.length (flat r)] s) → FN Go.Proofs.Try.prog 38 [.agg [.int .i64 l_0.Length, .int .i64 l_0.HintAt, .int .i64 l_0.HintLength, .int .i64 l_0.FirstObject, .int .i64 l_0.FirstEnd, .int .i64 l_0.Pages, .int .i64 l_0.Main]] s Q := by
  intro h
  refine FN.of (draw_ok mix) is_ranges_Ahead rfl (Nat.le_of_ble_eq_true rfl) ?_
  revert h
  rw [ir_ranges_Ahead, res_ranges_Ahead, ranges_Ahead]
  repeat' (first
    | with_reducible exact tt_to
    | with_reducible refine and_to ?_ ?_
    | with_reducible exact im_and
    | with_reducible refine im_to ?_
    | with_reducible refine call_to (fun _ (h : span_Join [(api_Span.mk 1024 l_0.FirstEnd), (api_Span.mk l_0.Main l_0.Length)] 0 = some _) => span_Join_fe h) (fun r1 => ?_)
    | with_reducible refine call_to_q (fun _ (h : span_Join [(api_Span.mk 1024 l_0.FirstEnd), (api_Span.mk l_0.Main l_0.Length)] 0 = some _) => span_Join_fe h) (fun _ => rfl) (fun r1 => ?_)
    | with_reducible refine call_to (fun _ (h : span_Join [(api_Span.mk 1024 l_0.FirstEnd), (api_Span.mk l_0.Main l_0.Length)] 0 = some _) => (by refine FE_cast ?_ (span_Join_fe h); simp -implicitDefEqProofs only [go_sem, start, startE, resVs, resV, resC, allV, retK, Nat.reduceBEq, Nat.reduceAdd, Nat.reduceMul, Nat.reduceLeDiff, Nat.reduceEqDiff, Nat.reduceBNe, Nat.ble_eq, UInt8.reduceToNat])) (fun r1 => ?_)
    | with_reducible refine call_to_q (fun _ (h : span_Join [(api_Span.mk 1024 l_0.FirstEnd), (api_Span.mk l_0.Main l_0.Length)] 0 = some _) => (by refine FE_cast ?_ (span_Join_fe h); simp -implicitDefEqProofs only [go_sem, start, startE, resVs, resV, resC, allV, retK, Nat.reduceBEq, Nat.reduceAdd, Nat.reduceMul, Nat.reduceLeDiff, Nat.reduceEqDiff, Nat.reduceBNe, Nat.ble_eq, UInt8.reduceToNat])) (fun _ => rfl) (fun r1 => ?_)
    | simp -implicitDefEqProofs only [go_sem, start, startE, resVs, resV, resC, allV, retK, Nat.reduceBEq, Nat.reduceAdd, Nat.reduceMul, Nat.reduceLeDiff, Nat.reduceEqDiff, Nat.reduceBNe, Nat.ble_eq, UInt8.reduceToNat])
theorem ranges_Ahead_fe {l_0} {s : Store} {r : (List api_Span)}  (h : ranges_Ahead l_0 = some r) : FE Go.Proofs.Try.prog 38 [.agg [.int .i64 l_0.Length, .int .i64 l_0.HintAt, .int .i64 l_0.HintLength, .int .i64 l_0.FirstObject, .int .i64 l_0.FirstEnd, .int .i64 l_0.Pages, .int .i64 l_0.Main]] s [.sl false 2 r.length (flat r)] s := ranges_Ahead_fn   ⟨r, h, rfl, rfl⟩
/-- catchword/catchwordref35.Chunk -/
def ref35_Chunk (at_0 : Int) (size_1 : Int) (total_2 : Int) : Option (api_Span) :=
  if (((decide (at_0 < 0)) || (decide (at_0 ≥ total_2))) || (decide (size_1 < 1))) || (decide (total_2 > 2147483647)) then
    some (api_Span.mk 0 0)
  else
    need (size_1 ≠ 0) <|
    jn (
      if (decide (size_1 ≤ total_2)) && (decide (w64 ((w64 ((w64 (Int.tdiv at_0 size_1)) + 1)) * size_1) < total_2)) then
        some (w64 (Int.tdiv at_0 size_1), w64 ((w64 ((w64 (Int.tdiv at_0 size_1)) + 1)) * size_1))
      else
        some (w64 (Int.tdiv at_0 size_1), total_2)) fun ((k3, end4) : Int × Int) =>
    some (api_Span.mk (w64 (k3 * size_1)) end4)
def ir_ref35_Chunk : IC :=
 (.seq (.reg none [i1 6 (.allocL [.int .i64 0, .int .i64 0])] [0, 1, 2, 6])
 (.seq (.seq (.reg none [mv 9 0,
 i1 10 (.bin .lss (.t 9) (.c (.int .i64 0))),
 mv 11 10,
 mvg 12 0 11 false,
 mvg 13 2 11 false,
 i1g 14 11 false (.bin .geq (.t 12) (.t 13)),
 i1 15 (.pick (.t 11) (.c (.bool true)) (.t 14)),
 mv 16 15,
 mvg 17 1 16 false,
 i1g 18 16 false (.bin .lss (.t 17) (.c (.int .i64 1))),
 i1 19 (.pick (.t 16) (.c (.bool true)) (.t 18)),
 mv 20 19,
 mvg 21 2 20 false,
 i1g 22 20 false (.bin .gtr (.t 21) (.c (.int .i64 2147483647))),
 i1 23 (.pick (.t 20) (.c (.bool true)) (.t 22))] [0, 1, 2, 6, 23])
 (.cond (.t 23) (.seq (.reg none [i1 24 (.build [.int .i64 0, .int .i64 0] []),
 i0 (.store 2 (.t 6) (.t 24))] [6])
 .ret)
 .skip))
 (.seq (.reg none [mv 25 0,
 mv 26 1,
 i1 27 (.bin .quo (.t 25) (.t 26)),
 mv 7 27] [1, 2, 6, 7])
 (.seq (.reg none [mv 28 2,
 mv 8 28] [1, 2, 6, 7, 8])
 (.join [(1, false), (6, false), (7, false), (8, false)] (.seq (.reg none [mv 29 1,
 mv 30 2,
 i1 31 (.bin .leq (.t 29) (.t 30)),
 mv 32 31,
 mvg 33 7 32 true,
 i1g 34 32 true (.bin .add (.t 33) (.c (.int .i64 1))),
 mvg 35 1 32 true,
 i1g 36 32 true (.bin .mul (.t 34) (.t 35)),
 mvg 37 2 32 true,
 i1g 38 32 true (.bin .lss (.t 36) (.t 37)),
 i1 39 (.pick (.t 32) (.t 38) (.c (.bool false)))] [1, 6, 7, 8, 39])
 (.cond (.t 39) (.reg none [mv 40 7,
 i1 41 (.bin .add (.t 40) (.c (.int .i64 1))),
 mv 42 1,
 i1 43 (.bin .mul (.t 41) (.t 42)),
 mv 8 43] [1, 6, 7, 8])
 .skip))
 (.seq (.reg none [mv 44 7,
 mv 45 1,
 i1 46 (.bin .mul (.t 44) (.t 45)),
 mv 47 8,
 i1 48 (.build [.int .i64 0, .int .i64 0] [(0, 1, (.t 46)), (1, 1, (.t 47))]),
 i0 (.store 2 (.t 6) (.t 48))] [6])
 .ret))))))
def res_ref35_Chunk : List IRes := [⟨6, false, some (2, true)⟩]
theorem is_ref35_Chunk : fnIs Go.Proofs.Try.prog 45 49 res_ref35_Chunk ir_ref35_Chunk = true := by kernel_rfl
theorem ref35_Chunk_fn {at_0 size_1 total_2} {s : Store} {Q : List AV → Store → Prop}  : ok (ref35_Chunk at_0 size_1 total_2) (fun r => Q [.agg [.int .i64 r.From, .int .i64 r.To]] s) → FN Go.Proofs.Try.prog 45 [.int .i64 at_0, .int .i64 size_1, .int .i64 total_2] s Q := by
  intro h
  refine FN.of (draw_ok mix) is_ref35_Chunk rfl (Nat.le_of_ble_eq_true rfl) ?_
  revert h
  rw [ir_ref35_Chunk, res_ref35_Chunk, ref35_Chunk]
  repeat' (first
    | with_reducible exact tt_to
    | with_reducible refine and_to ?_ ?_
    | with_reducible exact im_and
    | with_reducible refine im_to ?_
    | ((with_reducible refine join_to (fun ((k3, end4) : Int × Int) => ⟨[(1, .int .i64 size_1), (6, .loc [.int .i64 0, .int .i64 0]), (7, .int .i64 k3), (8, .int .i64 end4)], [], s⟩) (fun J => ?_) ?_); rotate_left; rintro ⟨k3, end4⟩)
    | simp -implicitDefEqProofs only [go_sem, start, startE, resVs, resV, resC, allV, retK, Nat.reduceBEq, Nat.reduceAdd, Nat.reduceMul, Nat.reduceLeDiff, Nat.reduceEqDiff, Nat.reduceBNe, Nat.ble_eq, UInt8.reduceToNat])
theorem ref35_Chunk_fe {at_0 size_1 total_2} {s : Store} {r : api_Span}  (h : ref35_Chunk at_0 size_1 total_2 = some r) : FE Go.Proofs.Try.prog 45 [.int .i64 at_0, .int .i64 size_1, .int .i64 total_2] s [.agg [.int .i64 r.From, .int .i64 r.To]] s := ref35_Chunk_fn   ⟨r, h, rfl, rfl⟩
/-- catchword/catchwordref26.Few -/
def ref26_Few (l_0 : (List api_PageHint)) (pages_1 : Int) (shared_2 : Int) : Option (Bool) :=
  if decide ((l_0.length : Int) > pages_1) then
    some false
  else
    jnS (
      bndS (
        iter (fun (k2 : Int) =>
          if decide (k2 < (l_0.length : Int)) then
            need (0 ≤ k2 ∧ k2 < l_0.length) <|
            if decide ((((ix l_0 k2).Shared).length : Int) > shared_2) then
              some (.inr (.inr false))
            else
              some (.inl (w64 (k2 + 1)))
          else
            some (.inr (.inl ()))) 0) (fun (_ : Unit) =>
        some (.inl ()))
      (fun (t3 : Bool) => some (.inr t3))) (fun (_ : Unit) =>
      some true)
    (fun (t1 : Bool) => some t1)
def ir_ref26_Few : IC :=
 (.seq (.reg none [i1 6 (.mov false (.c (.bool false)))] [0, 1, 2])
 (.seq (.seq (.reg none [mv 8 0,
 i1 9 (.len 0 (.t 8)),
 mv 10 1,
 i1 11 (.bin .gtr (.t 9) (.t 10))] [0, 2, 11])
 (.cond (.t 11) (.seq (.reg none [i1 6 (.mov false (.c (.bool false)))] [6])
 .ret)
 .skip))
 (.join [] (.seq (.reg none [i1 7 (.mov false (.c (.int .i64 0)))] [0, 2, 7])
 (.block 0 (.loop [(0, true), (2, false), (7, false)] (.seq (.seq (.reg none [mv 12 7,
 mv 13 0,
 i1 14 (.len 0 (.t 13)),
 i1 15 (.bin .lss (.t 12) (.t 14))] [0, 2, 7, 15])
 (.cond (.t 15) .skip
 (.exit 0)))
 (.seq (.block 1 (.seq (.reg none [mv 18 0,
 mv 19 7,
 i1 20 (.indexAddr [.int .i64 0, .int .i64 0, .sl false 1 0 []] (.t 18) (.t 19)),
 i1 21 (.fieldAddr 2 (.t 20)),
 i1 22 (.load 1 false (.t 21)),
 i1 23 (.len 0 (.t 22)),
 mv 24 2,
 i1 25 (.bin .gtr (.t 23) (.t 24))] [0, 2, 7, 25])
 (.cond (.t 25) (.seq (.reg none [i1 6 (.mov false (.c (.bool false)))] [6])
 .ret)
 .skip)))
 (.reg none [mv 16 7,
 i1 17 (.bin .add (.t 16) (.c (.int .i64 1))),
 mv 7 17] [0, 2, 7]))))))
 (.seq (.reg none [i1 6 (.mov false (.c (.bool true)))] [6])
 .ret))))
def res_ref26_Few : List IRes := [⟨6, true, none⟩]
theorem is_ref26_Few : fnIs Go.Proofs.Try.prog 83 26 res_ref26_Few ir_ref26_Few = true := by kernel_rfl
theorem ref26_Few_fn {l_0 pages_1 shared_2} {s : Store} {Q : List AV → Store → Prop}  : ok (ref26_Few l_0 pages_1 shared_2) (fun r => Q [.bool r] s) → FN Go.Proofs.Try.prog 83 [.sl false 3 l_0.length (flat l_0), .int .i64 pages_1, .int .i64 shared_2] s Q := by
  intro h
  refine FN.of (draw_ok mix) is_ref26_Few rfl (Nat.le_of_ble_eq_true rfl) ?_
  revert h
  rw [ir_ref26_Few, res_ref26_Few, ref26_Few]
  repeat' (first
    | with_reducible exact tt_to
    | with_reducible refine and_to ?_ ?_
    | with_reducible exact im_and
    | with_reducible refine im_to ?_
    | ((with_reducible refine iter_to (fun (k2 : Int) => ⟨[(0, .sl false 3 l_0.length (flat l_0)), (2, .int .i64 shared_2), (7, .int .i64 k2)], [], s⟩) ?_ ?_); (first | exact rfl | simp -implicitDefEqProofs only [go_sem, start, startE, resVs, resV, resC, allV, retK, Nat.reduceBEq, Nat.reduceAdd, Nat.reduceMul, Nat.reduceLeDiff, Nat.reduceEqDiff, Nat.reduceBNe, Nat.ble_eq, UInt8.reduceToNat]); rintro J k2)
    | ((with_reducible refine join_toS (fun (_ : Unit) => ⟨[], [], s⟩) (fun J => ?_) ?_); rotate_left; rintro _)
    | simp -implicitDefEqProofs only [go_sem, start, startE, resVs, resV, resC, allV, retK, Nat.reduceBEq, Nat.reduceAdd, Nat.reduceMul, Nat.reduceLeDiff, Nat.reduceEqDiff, Nat.reduceBNe, Nat.ble_eq, UInt8.reduceToNat])
theorem ref26_Few_fe {l_0 pages_1 shared_2} {s : Store} {r : Bool}  (h : ref26_Few l_0 pages_1 shared_2 = some r) : FE Go.Proofs.Try.prog 83 [.sl false 3 l_0.length (flat l_0), .int .i64 pages_1, .int .i64 shared_2] s [.bool r] s := ref26_Few_fn   ⟨r, h, rfl, rfl⟩
/-- catchword/catchwordref28.Few -/
def ref28_Few (h_0 : api_Hints) : Option (Bool) :=
  bnd (ref26_Few h_0.Pages 40 40) fun r1 =>
  some (r1 && (decide ((h_0.Shared.length : Int) ≤ 100)))
def ir_ref28_Few : IC :=
 (.seq (.reg none [i1 1 (.boxL 7 (.t 0)),
 i1 2 (.mov false (.c (.bool false)))] [1])
 (.seq (.reg none [i1 3 (.fieldAddr 2 (.t 1)),
 i1 4 (.load 1 false (.t 3)),
 i1 5 (.call 83 [(.t 4), (.c (.int .i64 40)), (.c (.int .i64 40))]),
 mv 6 5,
 i1g 7 6 true (.fieldAddr 6 (.t 1)),
 i1g 8 6 true (.load 1 false (.t 7)),
 i1g 9 6 true (.len 0 (.t 8)),
 i1g 10 6 true (.bin .leq (.t 9) (.c (.int .i64 100))),
 i1 11 (.pick (.t 6) (.t 10) (.c (.bool false))),
 mv 2 11] [2])
 .ret))
def res_ref28_Few : List IRes := [⟨2, true, none⟩]
theorem is_ref28_Few : fnIs Go.Proofs.Try.prog 41 12 res_ref28_Few ir_ref28_Few = true := by kernel_rfl
theorem ref28_Few_fn {h_0} {s : Store} {Q : List AV → Store → Prop}  : ok (ref28_Few h_0) (fun r => Q [.bool r] s) → FN Go.Proofs.Try.prog 41 [.agg [.int .i64 h_0.FirstObject, .int .i64 h_0.FirstAt, .sl false 3 h_0.Pages.length (flat h_0.Pages), .int .i64 h_0.SharedObject, .int .i64 h_0.SharedAt, .int .i64 h_0.SharedFirst, .sl false 1 h_0.Shared.length (flat h_0.Shared)]] s Q := by
  intro h
  refine FN.of (draw_ok mix) is_ref28_Few rfl (Nat.le_of_ble_eq_true rfl) ?_
  revert h
  rw [ir_ref28_Few, res_ref28_Few, ref28_Few]
  repeat' (first
    | with_reducible exact tt_to
    | with_reducible refine and_to ?_ ?_
    | with_reducible exact im_and
    | with_reducible refine im_to ?_
    | with_reducible refine call_to (fun _ (h : ref26_Few h_0.Pages 40 40 = some _) => ref26_Few_fe h) (fun r1 => ?_)
    | with_reducible refine call_to_q (fun _ (h : ref26_Few h_0.Pages 40 40 = some _) => ref26_Few_fe h) (fun _ => rfl) (fun r1 => ?_)
    | with_reducible refine call_to (fun _ (h : ref26_Few h_0.Pages 40 40 = some _) => (by refine FE_cast ?_ (ref26_Few_fe h); simp -implicitDefEqProofs only [go_sem, start, startE, resVs, resV, resC, allV, retK, Nat.reduceBEq, Nat.reduceAdd, Nat.reduceMul, Nat.reduceLeDiff, Nat.reduceEqDiff, Nat.reduceBNe, Nat.ble_eq, UInt8.reduceToNat])) (fun r1 => ?_)
    | with_reducible refine call_to_q (fun _ (h : ref26_Few h_0.Pages 40 40 = some _) => (by refine FE_cast ?_ (ref26_Few_fe h); simp -implicitDefEqProofs only [go_sem, start, startE, resVs, resV, resC, allV, retK, Nat.reduceBEq, Nat.reduceAdd, Nat.reduceMul, Nat.reduceLeDiff, Nat.reduceEqDiff, Nat.reduceBNe, Nat.ble_eq, UInt8.reduceToNat])) (fun _ => rfl) (fun r1 => ?_)
    | simp -implicitDefEqProofs only [go_sem, start, startE, resVs, resV, resC, allV, retK, Nat.reduceBEq, Nat.reduceAdd, Nat.reduceMul, Nat.reduceLeDiff, Nat.reduceEqDiff, Nat.reduceBNe, Nat.ble_eq, UInt8.reduceToNat])
theorem ref28_Few_fe {h_0} {s : Store} {r : Bool}  (h : ref28_Few h_0 = some r) : FE Go.Proofs.Try.prog 41 [.agg [.int .i64 h_0.FirstObject, .int .i64 h_0.FirstAt, .sl false 3 h_0.Pages.length (flat h_0.Pages), .int .i64 h_0.SharedObject, .int .i64 h_0.SharedAt, .int .i64 h_0.SharedFirst, .sl false 1 h_0.Shared.length (flat h_0.Shared)]] s [.bool r] s := ref28_Few_fn   ⟨r, h, rfl, rfl⟩
/-- catchword/catchwordref02.Add -/
def ref02_Add (l_0 : (List Int)) : Option (Int × Int) :=
  jnS (
    bndS (
      iter (fun (k4 : Int) =>
        if decide (k4 < (l_0.length : Int)) then
          need (0 ≤ k4 ∧ k4 < l_0.length) <|
          if decide (ix l_0 k4 < 0) then
            some (.inr (.inr ((0 : Int), (2 : Int))))
          else
            some (.inl (w64 (k4 + 1)))
        else
          some (.inr (.inl ()))) 0) (fun (_ : Unit) =>
      some (.inl ()))
    (fun ((t6, t7) : Int × Int) => some (.inr (t6, t7)))) (fun (_ : Unit) =>
    jnS (
      bndS (
        iter (fun ((n11, k12) : Int × Int) =>
          if decide (k12 < (l_0.length : Int)) then
            need (0 ≤ k12 ∧ k12 < l_0.length) <|
            if decide (ix l_0 k12 > w64 (2147483647 - n11)) then
              some (.inr (.inr ((0 : Int), (5 : Int))))
            else
              need (0 ≤ k12 ∧ k12 < l_0.length) <|
              some (.inl (w64 (n11 + (ix l_0 k12)), w64 (k12 + 1)))
          else
            some (.inr (.inl n11))) (0, 0)) (fun (n13 : Int) =>
        some (.inl n13))
      (fun ((t14, t15) : Int × Int) => some (.inr (t14, t15)))) (fun (n8 : Int) =>
      some (n8, 0))
    (fun ((t9, t10) : Int × Int) => some (t9, t10)))
  (fun ((t2, t3) : Int × Int) => some (t2, t3))
def ir_ref02_Add : IC :=
 (.seq (.reg none [i1 2 (.mov false (.c (.int .i64 0))),
 i1 3 (.mov false (.c (.int .i64 0)))] [0])
 (.join [(0, true)] (.seq (.reg none [i1 4 (.mov false (.c (.int .i64 0)))] [0, 4])
 (.block 0 (.loop [(0, true), (4, false)] (.seq (.seq (.reg none [mv 7 4,
 mv 8 0,
 i1 9 (.len 0 (.t 8)),
 i1 10 (.bin .lss (.t 7) (.t 9))] [0, 4, 10])
 (.cond (.t 10) .skip
 (.exit 0)))
 (.seq (.block 1 (.seq (.reg none [mv 13 0,
 mv 14 4,
 i1 15 (.indexAddr [.int .i64 0] (.t 13) (.t 14)),
 i1 16 (.load 1 false (.t 15)),
 i1 17 (.bin .lss (.t 16) (.c (.int .i64 0)))] [0, 4, 17])
 (.cond (.t 17) (.seq (.reg none [i1 2 (.mov false (.c (.int .i64 0))),
 i1 3 (.mov false (.c (.int .i64 2)))] [2, 3])
 .ret)
 .skip)))
 (.reg none [mv 11 4,
 i1 12 (.bin .add (.t 11) (.c (.int .i64 1))),
 mv 4 12] [0, 4]))))))
 (.seq (.reg none [i1 5 (.mov false (.c (.int .i64 0)))] [0, 5])
 (.join [(5, false)] (.seq (.reg none [i1 6 (.mov false (.c (.int .i64 0)))] [0, 5, 6])
 (.block 2 (.loop [(0, true), (5, false), (6, false)] (.seq (.seq (.reg none [mv 18 6,
 mv 19 0,
 i1 20 (.len 0 (.t 19)),
 i1 21 (.bin .lss (.t 18) (.t 20))] [0, 5, 6, 21])
 (.cond (.t 21) .skip
 (.exit 2)))
 (.seq (.block 3 (.seq (.seq (.reg none [mv 24 0,
 mv 25 6,
 i1 26 (.indexAddr [.int .i64 0] (.t 24) (.t 25)),
 i1 27 (.load 1 false (.t 26)),
 mv 28 5,
 i1 29 (.bin .sub (.c (.int .i64 2147483647)) (.t 28)),
 i1 30 (.bin .gtr (.t 27) (.t 29))] [0, 5, 6, 30])
 (.cond (.t 30) (.seq (.reg none [i1 2 (.mov false (.c (.int .i64 0))),
 i1 3 (.mov false (.c (.int .i64 5)))] [2, 3])
 .ret)
 .skip))
 (.reg none [mv 31 5,
 mv 32 0,
 mv 33 6,
 i1 34 (.indexAddr [.int .i64 0] (.t 32) (.t 33)),
 i1 35 (.load 1 false (.t 34)),
 i1 36 (.bin .add (.t 31) (.t 35)),
 mv 5 36] [0, 5, 6])))
 (.reg none [mv 22 6,
 i1 23 (.bin .add (.t 22) (.c (.int .i64 1))),
 mv 6 23] [0, 5, 6]))))))
 (.seq (.reg none [mv 37 5,
 mv 2 37,
 i1 3 (.mov false (.c (.int .i64 0)))] [2, 3])
 .ret)))))
def res_ref02_Add : List IRes := [⟨2, true, none⟩, ⟨3, true, none⟩]
theorem is_ref02_Add : fnIs Go.Proofs.Try.prog 131 38 res_ref02_Add ir_ref02_Add = true := by kernel_rfl
theorem ref02_Add_fn {l_0} {s : Store} {Q : List AV → Store → Prop}  : ok (ref02_Add l_0) (fun r => Q [.int .i64 r.1, .int .i64 r.2] s) → FN Go.Proofs.Try.prog 131 [.sl false 1 l_0.length (flat l_0)] s Q := by
  intro h
  refine FN.of (draw_ok mix) is_ref02_Add rfl (Nat.le_of_ble_eq_true rfl) ?_
  revert h
  rw [ir_ref02_Add, res_ref02_Add, ref02_Add]
  repeat' (first
    | with_reducible exact tt_to
    | with_reducible refine and_to ?_ ?_
    | with_reducible exact im_and
    | with_reducible refine im_to ?_
    | ((with_reducible refine iter_to (fun (k4 : Int) => ⟨[(0, .sl false 1 l_0.length (flat l_0)), (4, .int .i64 k4)], [], s⟩) ?_ ?_); (first | exact rfl | simp -implicitDefEqProofs only [go_sem, start, startE, resVs, resV, resC, allV, retK, Nat.reduceBEq, Nat.reduceAdd, Nat.reduceMul, Nat.reduceLeDiff, Nat.reduceEqDiff, Nat.reduceBNe, Nat.ble_eq, UInt8.reduceToNat]); rintro J k4)
    | ((with_reducible refine join_toS (live := [(0, true)]) (fun (_ : Unit) => ⟨[(0, .sl false 1 l_0.length (flat l_0))], [], s⟩) (fun J => ?_) ?_); rotate_left; rintro _)
    | ((with_reducible refine iter_to (fun ((n11, k12) : Int × Int) => ⟨[(0, .sl false 1 l_0.length (flat l_0)), (5, .int .i64 n11), (6, .int .i64 k12)], [], s⟩) ?_ ?_); (first | exact rfl | simp -implicitDefEqProofs only [go_sem, start, startE, resVs, resV, resC, allV, retK, Nat.reduceBEq, Nat.reduceAdd, Nat.reduceMul, Nat.reduceLeDiff, Nat.reduceEqDiff, Nat.reduceBNe, Nat.ble_eq, UInt8.reduceToNat]); rintro J ⟨n11, k12⟩)
    | ((with_reducible refine join_toS (live := [(5, false)]) (fun (n8 : Int) => ⟨[(5, .int .i64 n8)], [], s⟩) (fun J => ?_) ?_); rotate_left; rintro n8)
    | simp -implicitDefEqProofs only [go_sem, start, startE, resVs, resV, resC, allV, retK, Nat.reduceBEq, Nat.reduceAdd, Nat.reduceMul, Nat.reduceLeDiff, Nat.reduceEqDiff, Nat.reduceBNe, Nat.ble_eq, UInt8.reduceToNat])
theorem ref02_Add_fe {l_0} {s : Store} {r : Int × Int}  (h : ref02_Add l_0 = some r) : FE Go.Proofs.Try.prog 131 [.sl false 1 l_0.length (flat l_0)] s [.int .i64 r.1, .int .i64 r.2] s := ref02_Add_fn   ⟨r, h, rfl, rfl⟩
/-- catchword/catchwordref28.piece -/
def ref28_piece (ahead_0 : (List Int)) (length_1 : Int) : Option (api_Span × Bool) :=
  bnd (ref02_Add ahead_0) fun r1 =>
  need ((([] : List Int).length + ahead_0.length) * 8 ≤ room) <|
  need ((ahead_0.length + [length_1].length) * 8 ≤ room) <|
  bnd (ref02_Add (ahead_0 ++ [length_1])) fun r2 =>
  if ((r1.2 != 0) || (r2.2 != 0)) || (decide (length_1 < 1)) then
    some ((api_Span.mk 0 0), false)
  else
    some ((api_Span.mk r1.1 r2.1), true)
def ir_ref28_piece : IC :=
 (.seq (.reg none [i1 4 (.allocL [.int .i64 0, .int .i64 0]),
 i1 5 (.mov false (.c (.bool false)))] [0, 1, 4])
 (.seq (.reg none [mv 11 0,
 i1 12 (.call 131 [(.t 11)]),
 i1 10 (.movT (.t 12)),
 i1 13 (.extract (.t 10) 0),
 i1 14 (.extract (.t 10) 1),
 mv 6 13,
 mv 7 14] [0, 1, 4, 6, 7])
 (.seq (.reg none [i1 16 (.buildSl 1 0 [] []),
 mt 17 0,
 i1 18 (.append 1 8 (.t 16) (.t 17)),
 mv 19 1,
 i1 20 (.buildSl 1 1 [.int .i64 0] [(0, 1, (.t 19))]),
 i1 21 (.append 1 8 (.t 18) (.t 20)),
 i1 22 (.call 131 [(.t 21)]),
 i1 15 (.movT (.t 22)),
 i1 23 (.extract (.t 15) 0),
 i1 24 (.extract (.t 15) 1),
 mv 8 23,
 mv 9 24] [1, 4, 6, 7, 8, 9])
 (.seq (.seq (.reg none [mv 25 7,
 i1 26 (.bin .neq (.t 25) (.c (.int .i64 0))),
 mv 27 26,
 mvg 28 9 27 false,
 i1g 29 27 false (.bin .neq (.t 28) (.c (.int .i64 0))),
 i1 30 (.pick (.t 27) (.c (.bool true)) (.t 29)),
 mv 31 30,
 mvg 32 1 31 false,
 i1g 33 31 false (.bin .lss (.t 32) (.c (.int .i64 1))),
 i1 34 (.pick (.t 31) (.c (.bool true)) (.t 33))] [4, 6, 8, 34])
 (.cond (.t 34) (.seq (.reg none [i1 35 (.build [.int .i64 0, .int .i64 0] []),
 i0 (.store 2 (.t 4) (.t 35)),
 i1 5 (.mov false (.c (.bool false)))] [4, 5])
 .ret)
 .skip))
 (.seq (.reg none [mv 36 6,
 mv 37 8,
 i1 38 (.build [.int .i64 0, .int .i64 0] [(0, 1, (.t 36)), (1, 1, (.t 37))]),
 i0 (.store 2 (.t 4) (.t 38)),
 i1 5 (.mov false (.c (.bool true)))] [4, 5])
 .ret)))))
def res_ref28_piece : List IRes := [⟨4, false, some (2, true)⟩, ⟨5, true, none⟩]
theorem is_ref28_piece : fnIs Go.Proofs.Try.prog 117 39 res_ref28_piece ir_ref28_piece = true := by kernel_rfl
theorem ref28_piece_fn {ahead_0 length_1} {s : Store} {Q : List AV → Store → Prop}  : ok (ref28_piece ahead_0 length_1) (fun r => Q [.agg [.int .i64 r.1.From, .int .i64 r.1.To], .bool r.2] s) → FN Go.Proofs.Try.prog 117 [.sl false 1 ahead_0.length (flat ahead_0), .int .i64 length_1] s Q := by
  intro h
  refine FN.of (draw_ok mix) is_ref28_piece rfl (Nat.le_of_ble_eq_true rfl) ?_
  revert h
  rw [ir_ref28_piece, res_ref28_piece, ref28_piece]
  repeat' (first
    | with_reducible exact tt_to
    | with_reducible refine and_to ?_ ?_
    | with_reducible exact im_and
    | with_reducible refine im_to ?_
    | with_reducible refine call_to (fun _ (h : ref02_Add ahead_0 = some _) => ref02_Add_fe h) (fun r1 => ?_)
    | with_reducible refine call_to_q (fun _ (h : ref02_Add ahead_0 = some _) => ref02_Add_fe h) (fun _ => rfl) (fun r1 => ?_)
    | with_reducible refine call_to (fun _ (h : ref02_Add ahead_0 = some _) => (by refine FE_cast ?_ (ref02_Add_fe h); simp -implicitDefEqProofs only [go_sem, start, startE, resVs, resV, resC, allV, retK, Nat.reduceBEq, Nat.reduceAdd, Nat.reduceMul, Nat.reduceLeDiff, Nat.reduceEqDiff, Nat.reduceBNe, Nat.ble_eq, UInt8.reduceToNat])) (fun r1 => ?_)
    | with_reducible refine call_to_q (fun _ (h : ref02_Add ahead_0 = some _) => (by refine FE_cast ?_ (ref02_Add_fe h); simp -implicitDefEqProofs only [go_sem, start, startE, resVs, resV, resC, allV, retK, Nat.reduceBEq, Nat.reduceAdd, Nat.reduceMul, Nat.reduceLeDiff, Nat.reduceEqDiff, Nat.reduceBNe, Nat.ble_eq, UInt8.reduceToNat])) (fun _ => rfl) (fun r1 => ?_)
    | with_reducible refine call_to (fun _ (h : ref02_Add (ahead_0 ++ [length_1]) = some _) => ref02_Add_fe h) (fun r2 => ?_)
    | with_reducible refine call_to_q (fun _ (h : ref02_Add (ahead_0 ++ [length_1]) = some _) => ref02_Add_fe h) (fun _ => rfl) (fun r2 => ?_)
    | with_reducible refine call_to (fun _ (h : ref02_Add (ahead_0 ++ [length_1]) = some _) => (by refine FE_cast ?_ (ref02_Add_fe h); simp -implicitDefEqProofs only [go_sem, start, startE, resVs, resV, resC, allV, retK, Nat.reduceBEq, Nat.reduceAdd, Nat.reduceMul, Nat.reduceLeDiff, Nat.reduceEqDiff, Nat.reduceBNe, Nat.ble_eq, UInt8.reduceToNat])) (fun r2 => ?_)
    | with_reducible refine call_to_q (fun _ (h : ref02_Add (ahead_0 ++ [length_1]) = some _) => (by refine FE_cast ?_ (ref02_Add_fe h); simp -implicitDefEqProofs only [go_sem, start, startE, resVs, resV, resC, allV, retK, Nat.reduceBEq, Nat.reduceAdd, Nat.reduceMul, Nat.reduceLeDiff, Nat.reduceEqDiff, Nat.reduceBNe, Nat.ble_eq, UInt8.reduceToNat])) (fun _ => rfl) (fun r2 => ?_)
    | simp -implicitDefEqProofs only [go_sem, start, startE, resVs, resV, resC, allV, retK, Nat.reduceBEq, Nat.reduceAdd, Nat.reduceMul, Nat.reduceLeDiff, Nat.reduceEqDiff, Nat.reduceBNe, Nat.ble_eq, UInt8.reduceToNat]
    | (rw [Nat.add_comm 1]; with_reducible exact tt_to))
theorem ref28_piece_fe {ahead_0 length_1} {s : Store} {r : api_Span × Bool}  (h : ref28_piece ahead_0 length_1 = some r) : FE Go.Proofs.Try.prog 117 [.sl false 1 ahead_0.length (flat ahead_0), .int .i64 length_1] s [.agg [.int .i64 r.1.From, .int .i64 r.1.To], .bool r.2] s := ref28_piece_fn   ⟨r, h, rfl, rfl⟩
/-- catchword/catchwordref28.Own -/
def ref28_Own (h_0 : api_Hints) (l_1 : api_Lin) (p_2 : Int) : Option (api_Span × Bool) :=
  if (decide (p_2 < 0)) || (decide (p_2 ≥ (h_0.Pages.length : Int))) then
    some ((api_Span.mk 0 0), false)
  else
    if p_2 == 0 then
      need (0 ≤ (0 : Int) ∧ (0 : Int) < h_0.Pages.length) <|
      bnd (ref28_piece [h_0.FirstAt] ((ix h_0.Pages 0).Length)) fun r1 =>
      some (r1.1, r1.2)
    else
      jn (
        iter (fun ((ahead6, k7) : (List Int) × Int) =>
          if decide (k7 < p_2) then
            need (0 ≤ k7 ∧ k7 < h_0.Pages.length) <|
            need ((ahead6.length + [(ix h_0.Pages k7).Length].length) * 8 ≤ room) <|
            some (.inl (ahead6 ++ [(ix h_0.Pages k7).Length], w64 (k7 + 1)))
          else
            some (.inr ahead6)) ([l_1.FirstEnd], 1)) fun (ahead5 : (List Int)) =>
      need (0 ≤ p_2 ∧ p_2 < h_0.Pages.length) <|
      bnd (ref28_piece ahead5 ((ix h_0.Pages p_2).Length)) fun r12 =>
      some (r12.1, r12.2)
def ir_ref28_Own : IC :=
 (.seq (.reg none [i1 3 (.boxL 7 (.t 0)),
 i1 4 (.boxL 7 (.t 1)),
 i1 6 (.allocL [.int .i64 0, .int .i64 0]),
 i1 7 (.mov false (.c (.bool false)))] [2, 3, 4, 6])
 (.seq (.seq (.reg none [mv 10 2,
 i1 11 (.bin .lss (.t 10) (.c (.int .i64 0))),
 mv 12 11,
 mvg 13 2 12 false,
 i1g 14 12 false (.fieldAddr 2 (.t 3)),
 i1g 15 12 false (.load 1 false (.t 14)),
 i1g 16 12 false (.len 0 (.t 15)),
 i1g 17 12 false (.bin .geq (.t 13) (.t 16)),
 i1 18 (.pick (.t 12) (.c (.bool true)) (.t 17))] [2, 3, 4, 6, 18])
 (.cond (.t 18) (.seq (.reg none [i1 19 (.build [.int .i64 0, .int .i64 0] []),
 i0 (.store 2 (.t 6) (.t 19)),
 i1 7 (.mov false (.c (.bool false)))] [6, 7])
 .ret)
 .skip))
 (.seq (.seq (.reg none [mv 20 2,
 i1 21 (.bin .eql (.t 20) (.c (.int .i64 0)))] [2, 3, 4, 6, 21])
 (.cond (.t 21) (.seq (.reg (some 11) [i1 22 (.fieldAddr 1 (.t 3)),
 i1 23 (.load 1 false (.t 22)),
 i1 24 (.buildSl 1 1 [.int .i64 0] [(0, 1, (.t 23))]),
 i1 25 (.fieldAddr 2 (.t 3)),
 i1 26 (.load 1 false (.t 25)),
 i1 27 (.indexAddr [.int .i64 0, .int .i64 0, .sl false 1 0 []] (.t 26) (.c (.int .i64 0))),
 i1 28 (.fieldAddr 1 (.t 27)),
 i1 29 (.load 1 false (.t 28)),
 i1 30 (.call 117 [(.t 24), (.t 29)]),
 i1 31 (.extract (.t 30) 0),
 i1 32 (.extract (.t 30) 1),
 i0 (.store 2 (.t 6) (.t 31)),
 mv 7 32] [6, 7])
 .ret)
 .skip))
 (.seq (.reg none [i1 33 (.fieldAddr 4 (.t 4)),
 i1 34 (.load 1 false (.t 33)),
 i1 35 (.buildSl 1 1 [.int .i64 0] [(0, 1, (.t 34))]),
 mt 8 35] [2, 3, 6, 8])
 (.join [(2, false), (3, false), (6, false), (8, false)] (.seq (.reg none [i1 9 (.mov false (.c (.int .i64 1)))] [2, 3, 6, 8, 9])
 (.block 0 (.loop [(2, false), (3, false), (6, false), (8, false), (9, false)] (.seq (.seq (.reg none [mv 36 9,
 mv 37 2,
 i1 38 (.bin .lss (.t 36) (.t 37))] [2, 3, 6, 8, 9, 38])
 (.cond (.t 38) .skip
 (.exit 0)))
 (.seq (.block 1 (.reg none [mt 41 8,
 i1 42 (.fieldAddr 2 (.t 3)),
 i1 43 (.load 1 false (.t 42)),
 mv 44 9,
 i1 45 (.indexAddr [.int .i64 0, .int .i64 0, .sl false 1 0 []] (.t 43) (.t 44)),
 i1 46 (.fieldAddr 1 (.t 45)),
 i1 47 (.load 1 false (.t 46)),
 i1 48 (.buildSl 1 1 [.int .i64 0] [(0, 1, (.t 47))]),
 i1 49 (.append 1 8 (.t 41) (.t 48)),
 mt 8 49] [2, 3, 6, 8, 9]))
 (.reg none [mv 39 9,
 i1 40 (.bin .add (.t 39) (.c (.int .i64 1))),
 mv 9 40] [2, 3, 6, 8, 9]))))))
 (.seq (.reg none [mt 50 8,
 i1 51 (.fieldAddr 2 (.t 3)),
 i1 52 (.load 1 false (.t 51)),
 mv 53 2,
 i1 54 (.indexAddr [.int .i64 0, .int .i64 0, .sl false 1 0 []] (.t 52) (.t 53)),
 i1 55 (.fieldAddr 1 (.t 54)),
 i1 56 (.load 1 false (.t 55)),
 i1 57 (.call 117 [(.t 50), (.t 56)]),
 i1 58 (.extract (.t 57) 0),
 i1 59 (.extract (.t 57) 1),
 i0 (.store 2 (.t 6) (.t 58)),
 mv 7 59] [6, 7])
 .ret))))))
def res_ref28_Own : List IRes := [⟨6, false, some (2, true)⟩, ⟨7, true, none⟩]
theorem is_ref28_Own : fnIs Go.Proofs.Try.prog 87 60 res_ref28_Own ir_ref28_Own = true := by kernel_rfl
theorem ref28_Own_fn {h_0 l_1 p_2} {s : Store} {Q : List AV → Store → Prop}  : ok (ref28_Own h_0 l_1 p_2) (fun r => Q [.agg [.int .i64 r.1.From, .int .i64 r.1.To], .bool r.2] s) → FN Go.Proofs.Try.prog 87 [.agg [.int .i64 h_0.FirstObject, .int .i64 h_0.FirstAt, .sl false 3 h_0.Pages.length (flat h_0.Pages), .int .i64 h_0.SharedObject, .int .i64 h_0.SharedAt, .int .i64 h_0.SharedFirst, .sl false 1 h_0.Shared.length (flat h_0.Shared)], .agg [.int .i64 l_1.Length, .int .i64 l_1.HintAt, .int .i64 l_1.HintLength, .int .i64 l_1.FirstObject, .int .i64 l_1.FirstEnd, .int .i64 l_1.Pages, .int .i64 l_1.Main], .int .i64 p_2] s Q := by
  intro h
  refine FN.of (draw_ok mix) is_ref28_Own rfl (Nat.le_of_ble_eq_true rfl) ?_
  revert h
  rw [ir_ref28_Own, res_ref28_Own, ref28_Own]
  repeat' (first
    | with_reducible exact tt_to
    | with_reducible refine and_to ?_ ?_
    | with_reducible exact im_and
    | with_reducible refine im_to ?_
    | with_reducible refine call_to (fun _ (h : ref28_piece [h_0.FirstAt] ((ix h_0.Pages 0).Length) = some _) => ref28_piece_fe h) (fun r1 => ?_)
    | with_reducible refine call_to_q (fun _ (h : ref28_piece [h_0.FirstAt] ((ix h_0.Pages 0).Length) = some _) => ref28_piece_fe h) (fun _ => rfl) (fun r1 => ?_)
    | with_reducible refine call_to (fun _ (h : ref28_piece [h_0.FirstAt] ((ix h_0.Pages 0).Length) = some _) => (by refine FE_cast ?_ (ref28_piece_fe h); simp -implicitDefEqProofs only [go_sem, start, startE, resVs, resV, resC, allV, retK, Nat.reduceBEq, Nat.reduceAdd, Nat.reduceMul, Nat.reduceLeDiff, Nat.reduceEqDiff, Nat.reduceBNe, Nat.ble_eq, UInt8.reduceToNat])) (fun r1 => ?_)
    | with_reducible refine call_to_q (fun _ (h : ref28_piece [h_0.FirstAt] ((ix h_0.Pages 0).Length) = some _) => (by refine FE_cast ?_ (ref28_piece_fe h); simp -implicitDefEqProofs only [go_sem, start, startE, resVs, resV, resC, allV, retK, Nat.reduceBEq, Nat.reduceAdd, Nat.reduceMul, Nat.reduceLeDiff, Nat.reduceEqDiff, Nat.reduceBNe, Nat.ble_eq, UInt8.reduceToNat])) (fun _ => rfl) (fun r1 => ?_)
    | with_reducible refine call_to (fun _ (h : ref28_piece ahead5 ((ix h_0.Pages p_2).Length) = some _) => ref28_piece_fe h) (fun r12 => ?_)
    | with_reducible refine call_to_q (fun _ (h : ref28_piece ahead5 ((ix h_0.Pages p_2).Length) = some _) => ref28_piece_fe h) (fun _ => rfl) (fun r12 => ?_)
    | with_reducible refine call_to (fun _ (h : ref28_piece ahead5 ((ix h_0.Pages p_2).Length) = some _) => (by refine FE_cast ?_ (ref28_piece_fe h); simp -implicitDefEqProofs only [go_sem, start, startE, resVs, resV, resC, allV, retK, Nat.reduceBEq, Nat.reduceAdd, Nat.reduceMul, Nat.reduceLeDiff, Nat.reduceEqDiff, Nat.reduceBNe, Nat.ble_eq, UInt8.reduceToNat])) (fun r12 => ?_)
    | with_reducible refine call_to_q (fun _ (h : ref28_piece ahead5 ((ix h_0.Pages p_2).Length) = some _) => (by refine FE_cast ?_ (ref28_piece_fe h); simp -implicitDefEqProofs only [go_sem, start, startE, resVs, resV, resC, allV, retK, Nat.reduceBEq, Nat.reduceAdd, Nat.reduceMul, Nat.reduceLeDiff, Nat.reduceEqDiff, Nat.reduceBNe, Nat.ble_eq, UInt8.reduceToNat])) (fun _ => rfl) (fun r12 => ?_)
    | ((with_reducible refine iter_to (fun ((ahead6, k7) : (List Int) × Int) => ⟨[(2, .int .i64 p_2), (3, .loc [.int .i64 h_0.FirstObject, .int .i64 h_0.FirstAt, .sl false 3 h_0.Pages.length (flat h_0.Pages), .int .i64 h_0.SharedObject, .int .i64 h_0.SharedAt, .int .i64 h_0.SharedFirst, .sl false 1 h_0.Shared.length (flat h_0.Shared)]), (6, .loc [.int .i64 0, .int .i64 0]), (8, .sl true 1 ahead6.length (flat ahead6)), (9, .int .i64 k7)], [], s⟩) ?_ ?_); (first | exact rfl | simp -implicitDefEqProofs only [go_sem, start, startE, resVs, resV, resC, allV, retK, Nat.reduceBEq, Nat.reduceAdd, Nat.reduceMul, Nat.reduceLeDiff, Nat.reduceEqDiff, Nat.reduceBNe, Nat.ble_eq, UInt8.reduceToNat]); rintro J ⟨ahead6, k7⟩)
    | ((with_reducible refine join_to (fun (ahead5 : (List Int)) => ⟨[(2, .int .i64 p_2), (3, .loc [.int .i64 h_0.FirstObject, .int .i64 h_0.FirstAt, .sl false 3 h_0.Pages.length (flat h_0.Pages), .int .i64 h_0.SharedObject, .int .i64 h_0.SharedAt, .int .i64 h_0.SharedFirst, .sl false 1 h_0.Shared.length (flat h_0.Shared)]), (6, .loc [.int .i64 0, .int .i64 0]), (8, .sl true 1 ahead5.length (flat ahead5))], [], s⟩) (fun J => ?_) ?_); rotate_left; rintro ahead5)
    | simp -implicitDefEqProofs only [go_sem, start, startE, resVs, resV, resC, allV, retK, Nat.reduceBEq, Nat.reduceAdd, Nat.reduceMul, Nat.reduceLeDiff, Nat.reduceEqDiff, Nat.reduceBNe, Nat.ble_eq, UInt8.reduceToNat]
    | (rw [Nat.add_comm 1]; with_reducible exact tt_to))
theorem ref28_Own_fe {h_0 l_1 p_2} {s : Store} {r : api_Span × Bool}  (h : ref28_Own h_0 l_1 p_2 = some r) : FE Go.Proofs.Try.prog 87 [.agg [.int .i64 h_0.FirstObject, .int .i64 h_0.FirstAt, .sl false 3 h_0.Pages.length (flat h_0.Pages), .int .i64 h_0.SharedObject, .int .i64 h_0.SharedAt, .int .i64 h_0.SharedFirst, .sl false 1 h_0.Shared.length (flat h_0.Shared)], .agg [.int .i64 l_1.Length, .int .i64 l_1.HintAt, .int .i64 l_1.HintLength, .int .i64 l_1.FirstObject, .int .i64 l_1.FirstEnd, .int .i64 l_1.Pages, .int .i64 l_1.Main], .int .i64 p_2] s [.agg [.int .i64 r.1.From, .int .i64 r.1.To], .bool r.2] s := ref28_Own_fn   ⟨r, h, rfl, rfl⟩
/-- catchword/catchwordref28.Group -/
def ref28_Group (h_0 : api_Hints) (id_1 : Int) : Option (api_Span × Bool) :=
  if (((decide (id_1 < 0)) || (decide (id_1 ≥ (h_0.Shared.length : Int)))) || (decide (h_0.SharedFirst < 0))) || (decide (h_0.SharedFirst > (h_0.Shared.length : Int))) then
    some ((api_Span.mk 0 0), false)
  else
    jn (
      if decide (id_1 ≥ h_0.SharedFirst) then
        some ([h_0.SharedAt], h_0.SharedFirst)
      else
        some ([h_0.FirstAt], 0)) fun ((ahead4, from5) : (List Int) × Int) =>
    jn (
      iter (fun ((ahead10, k11) : (List Int) × Int) =>
        if decide (k11 < id_1) then
          need (0 ≤ k11 ∧ k11 < h_0.Shared.length) <|
          need ((ahead10.length + [ix h_0.Shared k11].length) * 8 ≤ room) <|
          some (.inl (ahead10 ++ [ix h_0.Shared k11], w64 (k11 + 1)))
        else
          some (.inr ahead10)) (ahead4, from5)) fun (ahead9 : (List Int)) =>
    need (0 ≤ id_1 ∧ id_1 < h_0.Shared.length) <|
    bnd (ref28_piece ahead9 (ix h_0.Shared id_1)) fun r16 =>
    some (r16.1, r16.2)
def ir_ref28_Group : IC :=
 (.seq (.reg none [i1 2 (.boxL 7 (.t 0)),
 i1 4 (.allocL [.int .i64 0, .int .i64 0]),
 i1 5 (.mov false (.c (.bool false)))] [1, 2, 4])
 (.seq (.seq (.reg none [mv 9 1,
 i1 10 (.bin .lss (.t 9) (.c (.int .i64 0))),
 mv 11 10,
 mvg 12 1 11 false,
 i1g 13 11 false (.fieldAddr 6 (.t 2)),
 i1g 14 11 false (.load 1 false (.t 13)),
 i1g 15 11 false (.len 0 (.t 14)),
 i1g 16 11 false (.bin .geq (.t 12) (.t 15)),
 i1 17 (.pick (.t 11) (.c (.bool true)) (.t 16)),
 mv 18 17,
 i1g 19 18 false (.fieldAddr 5 (.t 2)),
 i1g 20 18 false (.load 1 false (.t 19)),
 i1g 21 18 false (.bin .lss (.t 20) (.c (.int .i64 0))),
 i1 22 (.pick (.t 18) (.c (.bool true)) (.t 21)),
 mv 23 22,
 i1g 24 23 false (.fieldAddr 5 (.t 2)),
 i1g 25 23 false (.load 1 false (.t 24)),
 i1g 26 23 false (.fieldAddr 6 (.t 2)),
 i1g 27 23 false (.load 1 false (.t 26)),
 i1g 28 23 false (.len 0 (.t 27)),
 i1g 29 23 false (.bin .gtr (.t 25) (.t 28)),
 i1 30 (.pick (.t 23) (.c (.bool true)) (.t 29))] [1, 2, 4, 30])
 (.cond (.t 30) (.seq (.reg none [i1 31 (.build [.int .i64 0, .int .i64 0] []),
 i0 (.store 2 (.t 4) (.t 31)),
 i1 5 (.mov false (.c (.bool false)))] [4, 5])
 .ret)
 .skip))
 (.seq (.reg none [i1 32 (.fieldAddr 1 (.t 2)),
 i1 33 (.load 1 false (.t 32)),
 i1 34 (.buildSl 1 1 [.int .i64 0] [(0, 1, (.t 33))]),
 mt 6 34] [1, 2, 4, 6])
 (.seq (.reg none [i1 7 (.mov false (.c (.int .i64 0)))] [1, 2, 4, 6, 7])
 (.join [(1, false), (2, false), (4, false), (6, false), (7, false)] (.seq (.reg none [mv 35 1,
 i1 36 (.fieldAddr 5 (.t 2)),
 i1 37 (.load 1 false (.t 36)),
 i1 38 (.bin .geq (.t 35) (.t 37))] [1, 2, 4, 6, 7, 38])
 (.cond (.t 38) (.seq (.reg none [i1 39 (.fieldAddr 4 (.t 2)),
 i1 40 (.load 1 false (.t 39)),
 i1 41 (.buildSl 1 1 [.int .i64 0] [(0, 1, (.t 40))]),
 mt 6 41] [1, 2, 4, 6])
 (.reg none [i1 42 (.fieldAddr 5 (.t 2)),
 i1 43 (.load 1 false (.t 42)),
 mv 7 43] [1, 2, 4, 6, 7]))
 .skip))
 (.join [(1, false), (2, false), (4, false), (6, false)] (.seq (.reg none [mv 44 7,
 mv 8 44] [1, 2, 4, 6, 8])
 (.block 0 (.loop [(1, false), (2, false), (4, false), (6, false), (8, false)] (.seq (.seq (.reg none [mv 45 8,
 mv 46 1,
 i1 47 (.bin .lss (.t 45) (.t 46))] [1, 2, 4, 6, 8, 47])
 (.cond (.t 47) .skip
 (.exit 0)))
 (.seq (.block 1 (.reg none [mt 50 6,
 i1 51 (.fieldAddr 6 (.t 2)),
 i1 52 (.load 1 false (.t 51)),
 mv 53 8,
 i1 54 (.indexAddr [.int .i64 0] (.t 52) (.t 53)),
 i1 55 (.load 1 false (.t 54)),
 i1 56 (.buildSl 1 1 [.int .i64 0] [(0, 1, (.t 55))]),
 i1 57 (.append 1 8 (.t 50) (.t 56)),
 mt 6 57] [1, 2, 4, 6, 8]))
 (.reg none [mv 48 8,
 i1 49 (.bin .add (.t 48) (.c (.int .i64 1))),
 mv 8 49] [1, 2, 4, 6, 8]))))))
 (.seq (.reg none [mt 58 6,
 i1 59 (.fieldAddr 6 (.t 2)),
 i1 60 (.load 1 false (.t 59)),
 mv 61 1,
 i1 62 (.indexAddr [.int .i64 0] (.t 60) (.t 61)),
 i1 63 (.load 1 false (.t 62)),
 i1 64 (.call 117 [(.t 58), (.t 63)]),
 i1 65 (.extract (.t 64) 0),
 i1 66 (.extract (.t 64) 1),
 i0 (.store 2 (.t 4) (.t 65)),
 mv 5 66] [4, 5])
 .ret)))))))
def res_ref28_Group : List IRes := [⟨4, false, some (2, true)⟩, ⟨5, true, none⟩]
theorem is_ref28_Group : fnIs Go.Proofs.Try.prog 88 67 res_ref28_Group ir_ref28_Group = true := by kernel_rfl
theorem ref28_Group_fn {h_0 id_1} {s : Store} {Q : List AV → Store → Prop}  : ok (ref28_Group h_0 id_1) (fun r => Q [.agg [.int .i64 r.1.From, .int .i64 r.1.To], .bool r.2] s) → FN Go.Proofs.Try.prog 88 [.agg [.int .i64 h_0.FirstObject, .int .i64 h_0.FirstAt, .sl false 3 h_0.Pages.length (flat h_0.Pages), .int .i64 h_0.SharedObject, .int .i64 h_0.SharedAt, .int .i64 h_0.SharedFirst, .sl false 1 h_0.Shared.length (flat h_0.Shared)], .int .i64 id_1] s Q := by
  intro h
  refine FN.of (draw_ok mix) is_ref28_Group rfl (Nat.le_of_ble_eq_true rfl) ?_
  revert h
  rw [ir_ref28_Group, res_ref28_Group, ref28_Group]
  repeat' (first
    | with_reducible exact tt_to
    | with_reducible refine and_to ?_ ?_
    | with_reducible exact im_and
    | with_reducible refine im_to ?_
    | with_reducible refine call_to (fun _ (h : ref28_piece ahead9 (ix h_0.Shared id_1) = some _) => ref28_piece_fe h) (fun r16 => ?_)
    | with_reducible refine call_to_q (fun _ (h : ref28_piece ahead9 (ix h_0.Shared id_1) = some _) => ref28_piece_fe h) (fun _ => rfl) (fun r16 => ?_)
    | with_reducible refine call_to (fun _ (h : ref28_piece ahead9 (ix h_0.Shared id_1) = some _) => (by refine FE_cast ?_ (ref28_piece_fe h); simp -implicitDefEqProofs only [go_sem, start, startE, resVs, resV, resC, allV, retK, Nat.reduceBEq, Nat.reduceAdd, Nat.reduceMul, Nat.reduceLeDiff, Nat.reduceEqDiff, Nat.reduceBNe, Nat.ble_eq, UInt8.reduceToNat])) (fun r16 => ?_)
    | with_reducible refine call_to_q (fun _ (h : ref28_piece ahead9 (ix h_0.Shared id_1) = some _) => (by refine FE_cast ?_ (ref28_piece_fe h); simp -implicitDefEqProofs only [go_sem, start, startE, resVs, resV, resC, allV, retK, Nat.reduceBEq, Nat.reduceAdd, Nat.reduceMul, Nat.reduceLeDiff, Nat.reduceEqDiff, Nat.reduceBNe, Nat.ble_eq, UInt8.reduceToNat])) (fun _ => rfl) (fun r16 => ?_)
    | ((with_reducible refine join_to (live := [(1, false), (2, false), (4, false), (6, false), (7, false)]) (fun ((ahead4, from5) : (List Int) × Int) => ⟨[(1, .int .i64 id_1), (2, .loc [.int .i64 h_0.FirstObject, .int .i64 h_0.FirstAt, .sl false 3 h_0.Pages.length (flat h_0.Pages), .int .i64 h_0.SharedObject, .int .i64 h_0.SharedAt, .int .i64 h_0.SharedFirst, .sl false 1 h_0.Shared.length (flat h_0.Shared)]), (4, .loc [.int .i64 0, .int .i64 0]), (6, .sl true 1 ahead4.length (flat ahead4)), (7, .int .i64 from5)], [], s⟩) (fun J => ?_) ?_); rotate_left; rintro ⟨ahead4, from5⟩)
    | ((with_reducible refine iter_to (fun ((ahead10, k11) : (List Int) × Int) => ⟨[(1, .int .i64 id_1), (2, .loc [.int .i64 h_0.FirstObject, .int .i64 h_0.FirstAt, .sl false 3 h_0.Pages.length (flat h_0.Pages), .int .i64 h_0.SharedObject, .int .i64 h_0.SharedAt, .int .i64 h_0.SharedFirst, .sl false 1 h_0.Shared.length (flat h_0.Shared)]), (4, .loc [.int .i64 0, .int .i64 0]), (6, .sl true 1 ahead10.length (flat ahead10)), (8, .int .i64 k11)], [], s⟩) ?_ ?_); (first | exact rfl | simp -implicitDefEqProofs only [go_sem, start, startE, resVs, resV, resC, allV, retK, Nat.reduceBEq, Nat.reduceAdd, Nat.reduceMul, Nat.reduceLeDiff, Nat.reduceEqDiff, Nat.reduceBNe, Nat.ble_eq, UInt8.reduceToNat]); rintro J ⟨ahead10, k11⟩)
    | ((with_reducible refine join_to (live := [(1, false), (2, false), (4, false), (6, false)]) (fun (ahead9 : (List Int)) => ⟨[(1, .int .i64 id_1), (2, .loc [.int .i64 h_0.FirstObject, .int .i64 h_0.FirstAt, .sl false 3 h_0.Pages.length (flat h_0.Pages), .int .i64 h_0.SharedObject, .int .i64 h_0.SharedAt, .int .i64 h_0.SharedFirst, .sl false 1 h_0.Shared.length (flat h_0.Shared)]), (4, .loc [.int .i64 0, .int .i64 0]), (6, .sl true 1 ahead9.length (flat ahead9))], [], s⟩) (fun J => ?_) ?_); rotate_left; rintro ahead9)
    | simp -implicitDefEqProofs only [go_sem, start, startE, resVs, resV, resC, allV, retK, Nat.reduceBEq, Nat.reduceAdd, Nat.reduceMul, Nat.reduceLeDiff, Nat.reduceEqDiff, Nat.reduceBNe, Nat.ble_eq, UInt8.reduceToNat]
    | (rw [Nat.add_comm 1]; with_reducible exact tt_to))
theorem ref28_Group_fe {h_0 id_1} {s : Store} {r : api_Span × Bool}  (h : ref28_Group h_0 id_1 = some r) : FE Go.Proofs.Try.prog 88 [.agg [.int .i64 h_0.FirstObject, .int .i64 h_0.FirstAt, .sl false 3 h_0.Pages.length (flat h_0.Pages), .int .i64 h_0.SharedObject, .int .i64 h_0.SharedAt, .int .i64 h_0.SharedFirst, .sl false 1 h_0.Shared.length (flat h_0.Shared)], .int .i64 id_1] s [.agg [.int .i64 r.1.From, .int .i64 r.1.To], .bool r.2] s := ref28_Group_fn   ⟨r, h, rfl, rfl⟩
/-- catchword/catchwordref35.Ahead -/
def ref35_Ahead (l_0 : api_Lin) : Option ((List api_Span)) :=
  bnd (ref35_Joined [(api_Span.mk 1024 l_0.FirstEnd), (api_Span.mk l_0.Main l_0.Length)] ([] : List api_Span)) fun r1 =>
  some r1
def ir_ref35_Ahead : IC :=
 (.seq (.reg none [i1 1 (.boxL 7 (.t 0)),
 i1 2 (.mov true (.c (.sl true 2 0 [])))] [1])
 (.seq (.reg none [i1 3 (.fieldAddr 4 (.t 1)),
 i1 4 (.load 1 false (.t 3)),
 i1 5 (.build [.int .i64 0, .int .i64 0] [(0, 1, (.c (.int .i64 1024))), (1, 1, (.t 4))]),
 i1 6 (.fieldAddr 6 (.t 1)),
 i1 7 (.load 1 false (.t 6)),
 i1 8 (.fieldAddr 0 (.t 1)),
 i1 9 (.load 1 false (.t 8)),
 i1 10 (.build [.int .i64 0, .int .i64 0] [(0, 1, (.t 7)), (1, 1, (.t 9))]),
 i1 11 (.buildSl 2 2 [.int .i64 0, .int .i64 0, .int .i64 0, .int .i64 0] [(0, 2, (.t 5)), (2, 2, (.t 10))]),
 i1 12 (.call 81 [(.t 11), (.c (.sl true 2 0 []))]),
 mt 2 12] [2])
 .ret))
def res_ref35_Ahead : List IRes := [⟨2, false, none⟩]
theorem is_ref35_Ahead : fnIs Go.Proofs.Try.prog 39 13 res_ref35_Ahead ir_ref35_Ahead = true := by kernel_rfl
theorem ref35_Ahead_fn {l_0} {s : Store} {Q : List AV → Store → Prop}  : ok (ref35_Ahead l_0) (fun r => Q [.sl false 2 r.length (flat r)] s) → FN Go.Proofs.Try.prog 39 [.agg [.int .i64 l_0.Length, .int .i64 l_0.HintAt, .int .i64 l_0.HintLength, .int .i64 l_0.FirstObject, .int .i64 l_0.FirstEnd, .int .i64 l_0.Pages, .int .i64 l_0.Main]] s Q := by
  intro h
  refine FN.of (draw_ok mix) is_ref35_Ahead rfl (Nat.le_of_ble_eq_true rfl) ?_
  revert h
  rw [ir_ref35_Ahead, res_ref35_Ahead, ref35_Ahead]
  repeat' (first
    | with_reducible exact tt_to
    | with_reducible refine and_to ?_ ?_
    | with_reducible exact im_and
    | with_reducible refine im_to ?_
    | with_reducible refine call_to (fun _ (h : ref35_Joined [(api_Span.mk 1024 l_0.FirstEnd), (api_Span.mk l_0.Main l_0.Length)] ([] : List api_Span) = some _) => ref35_Joined_fe h) (fun r1 => ?_)
    | with_reducible refine call_to_q (fun _ (h : ref35_Joined [(api_Span.mk 1024 l_0.FirstEnd), (api_Span.mk l_0.Main l_0.Length)] ([] : List api_Span) = some _) => ref35_Joined_fe h) (fun _ => rfl) (fun r1 => ?_)
    | with_reducible refine call_to (fun _ (h : ref35_Joined [(api_Span.mk 1024 l_0.FirstEnd), (api_Span.mk l_0.Main l_0.Length)] ([] : List api_Span) = some _) => (by refine FE_cast ?_ (ref35_Joined_fe h); simp -implicitDefEqProofs only [go_sem, start, startE, resVs, resV, resC, allV, retK, Nat.reduceBEq, Nat.reduceAdd, Nat.reduceMul, Nat.reduceLeDiff, Nat.reduceEqDiff, Nat.reduceBNe, Nat.ble_eq, UInt8.reduceToNat])) (fun r1 => ?_)
    | with_reducible refine call_to_q (fun _ (h : ref35_Joined [(api_Span.mk 1024 l_0.FirstEnd), (api_Span.mk l_0.Main l_0.Length)] ([] : List api_Span) = some _) => (by refine FE_cast ?_ (ref35_Joined_fe h); simp -implicitDefEqProofs only [go_sem, start, startE, resVs, resV, resC, allV, retK, Nat.reduceBEq, Nat.reduceAdd, Nat.reduceMul, Nat.reduceLeDiff, Nat.reduceEqDiff, Nat.reduceBNe, Nat.ble_eq, UInt8.reduceToNat])) (fun _ => rfl) (fun r1 => ?_)
    | simp -implicitDefEqProofs only [go_sem, start, startE, resVs, resV, resC, allV, retK, Nat.reduceBEq, Nat.reduceAdd, Nat.reduceMul, Nat.reduceLeDiff, Nat.reduceEqDiff, Nat.reduceBNe, Nat.ble_eq, UInt8.reduceToNat])
theorem ref35_Ahead_fe {l_0} {s : Store} {r : (List api_Span)}  (h : ref35_Ahead l_0 = some r) : FE Go.Proofs.Try.prog 39 [.agg [.int .i64 l_0.Length, .int .i64 l_0.HintAt, .int .i64 l_0.HintLength, .int .i64 l_0.FirstObject, .int .i64 l_0.FirstEnd, .int .i64 l_0.Pages, .int .i64 l_0.Main]] s [.sl false 2 r.length (flat r)] s := ref35_Ahead_fn   ⟨r, h, rfl, rfl⟩
/-- catchword/catchwordref35.Page -/
def ref35_Page (h_0 : api_Hints) (l_1 : api_Lin) (p_2 : Int) : Option ((List api_Span)) :=
  if (decide (p_2 < 0)) || (decide (p_2 ≥ (h_0.Pages.length : Int))) then
    some ([] : List api_Span)
  else
    bnd (ref28_Own h_0 l_1 p_2) fun r1 =>
    jn (
      if r1.2 then
        need ((([] : List api_Span).length + [r1.1].length) * 16 ≤ room) <|
        some [r1.1]
      else
        some ([] : List api_Span)) fun (out4 : (List api_Span)) =>
    jn (
      iter (fun ((out6, k7) : (List api_Span) × Int) =>
        need (0 ≤ p_2 ∧ p_2 < h_0.Pages.length) <|
        if decide (k7 < (((ix h_0.Pages p_2).Shared).length : Int)) then
          jn (
            need (0 ≤ p_2 ∧ p_2 < h_0.Pages.length) <|
            need (0 ≤ k7 ∧ k7 < ((ix h_0.Pages p_2).Shared).length) <|
            bnd (ref28_Group h_0 (ix ((ix h_0.Pages p_2).Shared) k7)) fun r13 =>
            if r13.2 then
              need ((out6.length + [r13.1].length) * 16 ≤ room) <|
              some (out6 ++ [r13.1])
            else
              some out6) fun (out11 : (List api_Span)) =>
          some (.inl (out11, w64 (k7 + 1)))
        else
          some (.inr out6)) (out4, 0)) fun (out5 : (List api_Span)) =>
    bnd (ref35_Joined out5 ([] : List api_Span)) fun r14 =>
    some r14
def ir_ref35_Page : IC :=
 (.seq (.reg none [i1 3 (.boxL 7 (.t 0)),
 i1 4 (.boxL 7 (.t 1)),
 i1 6 (.mov true (.c (.sl true 2 0 [])))] [2, 3, 4])
 (.seq (.seq (.reg none [mv 13 2,
 i1 14 (.bin .lss (.t 13) (.c (.int .i64 0))),
 mv 15 14,
 mvg 16 2 15 false,
 i1g 17 15 false (.fieldAddr 2 (.t 3)),
 i1g 18 15 false (.load 1 false (.t 17)),
 i1g 19 15 false (.len 0 (.t 18)),
 i1g 20 15 false (.bin .geq (.t 16) (.t 19)),
 i1 21 (.pick (.t 15) (.c (.bool true)) (.t 20))] [2, 3, 4, 21])
 (.cond (.t 21) (.seq (.reg none [i1 6 (.mov true (.c (.sl true 2 0 [])))] [6])
 .ret)
 .skip))
 (.seq (.reg none [i1 7 (.mov true (.c (.sl true 2 0 [])))] [2, 3, 4, 7])
 (.seq (.reg none [i1 23 (.load 7 true (.t 3)),
 i1 24 (.load 7 true (.t 4)),
 mv 25 2,
 i1 26 (.call 87 [(.t 23), (.t 24), (.t 25)]),
 i1 22 (.movT (.t 26)),
 i1 27 (.extract (.t 22) 0),
 i1 28 (.extract (.t 22) 1),
 i1 8 (.allocL [.int .i64 0, .int .i64 0]),
 i0 (.store 2 (.t 8) (.t 27)),
 mv 9 28] [2, 3, 7, 8, 9])
 (.join [(2, false), (3, false), (7, false)] (.seq (.reg none [mv 29 9] [2, 3, 7, 8, 29])
 (.cond (.t 29) (.reg none [mt 30 7,
 i1 31 (.load 2 true (.t 8)),
 i1 32 (.buildSl 2 1 [.int .i64 0, .int .i64 0] [(0, 2, (.t 31))]),
 i1 33 (.append 2 16 (.t 30) (.t 32)),
 mt 7 33] [2, 3, 7])
 .skip))
 (.join [(7, false)] (.seq (.reg none [i1 10 (.mov false (.c (.int .i64 0)))] [2, 3, 7, 10])
 (.block 0 (.loop [(2, false), (3, false), (7, false), (10, false)] (.seq (.seq (.reg none [mv 34 10,
 i1 35 (.fieldAddr 2 (.t 3)),
 i1 36 (.load 1 false (.t 35)),
 mv 37 2,
 i1 38 (.indexAddr [.int .i64 0, .int .i64 0, .sl false 1 0 []] (.t 36) (.t 37)),
 i1 39 (.fieldAddr 2 (.t 38)),
 i1 40 (.load 1 false (.t 39)),
 i1 41 (.len 0 (.t 40)),
 i1 42 (.bin .lss (.t 34) (.t 41))] [2, 3, 7, 10, 42])
 (.cond (.t 42) .skip
 (.exit 0)))
 (.join [(2, false), (3, false), (7, false), (10, false)] (.block 1 (.seq (.regT [11] 17 [i1 46 (.load 7 true (.t 3)),
 i1 47 (.fieldAddr 2 (.t 3)),
 i1 48 (.load 1 false (.t 47)),
 mv 49 2,
 i1 50 (.indexAddr [.int .i64 0, .int .i64 0, .sl false 1 0 []] (.t 48) (.t 49)),
 i1 51 (.fieldAddr 2 (.t 50)),
 i1 52 (.load 1 false (.t 51)),
 mv 53 10,
 i1 54 (.indexAddr [.int .i64 0] (.t 52) (.t 53)),
 i1 55 (.load 1 false (.t 54)),
 i1 56 (.call 88 [(.t 46), (.t 55)]),
 i1 45 (.movT (.t 56)),
 i1 57 (.extract (.t 45) 0),
 i1 58 (.extract (.t 45) 1),
 i1 11 (.allocL [.int .i64 0, .int .i64 0]),
 i0 (.store 2 (.t 11) (.t 57)),
 mv 12 58] [2, 3, 7, 10, 11, 12])
 (.seq (.reg none [mv 59 12] [2, 3, 7, 10, 11, 59])
 (.cond (.t 59) (.reg none [mt 60 7,
 i1 61 (.load 2 true (.t 11)),
 i1 62 (.buildSl 2 1 [.int .i64 0, .int .i64 0] [(0, 2, (.t 61))]),
 i1 63 (.append 2 16 (.t 60) (.t 62)),
 mt 7 63] [2, 3, 7, 10])
 .skip))))
 (.reg none [mv 43 10,
 i1 44 (.bin .add (.t 43) (.c (.int .i64 1))),
 mv 10 44] [2, 3, 7, 10]))))))
 (.seq (.reg none [mt 64 7,
 i1 65 (.call 81 [(.t 64), (.c (.sl true 2 0 []))]),
 mt 6 65] [6])
 .ret)))))))
def res_ref35_Page : List IRes := [⟨6, false, none⟩]
theorem is_ref35_Page : fnIs Go.Proofs.Try.prog 43 66 res_ref35_Page ir_ref35_Page = true := by kernel_rfl
theorem ref35_Page_fn {h_0 l_1 p_2} {s : Store} {Q : List AV → Store → Prop}  : ok (ref35_Page h_0 l_1 p_2) (fun r => Q [.sl false 2 r.length (flat r)] s) → FN Go.Proofs.Try.prog 43 [.agg [.int .i64 h_0.FirstObject, .int .i64 h_0.FirstAt, .sl false 3 h_0.Pages.length (flat h_0.Pages), .int .i64 h_0.SharedObject, .int .i64 h_0.SharedAt, .int .i64 h_0.SharedFirst, .sl false 1 h_0.Shared.length (flat h_0.Shared)], .agg [.int .i64 l_1.Length, .int .i64 l_1.HintAt, .int .i64 l_1.HintLength, .int .i64 l_1.FirstObject, .int .i64 l_1.FirstEnd, .int .i64 l_1.Pages, .int .i64 l_1.Main], .int .i64 p_2] s Q := by
  intro h
  refine FN.of (draw_ok mix) is_ref35_Page rfl (Nat.le_of_ble_eq_true rfl) ?_
  revert h
  rw [ir_ref35_Page, res_ref35_Page, ref35_Page]
  repeat' (first
    | with_reducible exact tt_to
    | ((with_reducible refine b_to ?_ ?_); exact rfl)
    | ((with_reducible refine n_to ?_ ?_); exact rfl)
    | with_reducible refine and_to ?_ ?_
    | with_reducible exact im_and
    | with_reducible refine im_to ?_
    | with_reducible refine call_to (fun _ (h : ref28_Own h_0 l_1 p_2 = some _) => ref28_Own_fe h) (fun r1 => ?_)
    | with_reducible refine call_to_q (fun _ (h : ref28_Own h_0 l_1 p_2 = some _) => ref28_Own_fe h) (fun _ => rfl) (fun r1 => ?_)
    | with_reducible refine call_to (fun _ (h : ref28_Own h_0 l_1 p_2 = some _) => (by refine FE_cast ?_ (ref28_Own_fe h); simp -implicitDefEqProofs only [go_sem, start, startE, resVs, resV, resC, allV, retK, Nat.reduceBEq, Nat.reduceAdd, Nat.reduceMul, Nat.reduceLeDiff, Nat.reduceEqDiff, Nat.reduceBNe, Nat.ble_eq, UInt8.reduceToNat])) (fun r1 => ?_)
    | with_reducible refine call_to_q (fun _ (h : ref28_Own h_0 l_1 p_2 = some _) => (by refine FE_cast ?_ (ref28_Own_fe h); simp -implicitDefEqProofs only [go_sem, start, startE, resVs, resV, resC, allV, retK, Nat.reduceBEq, Nat.reduceAdd, Nat.reduceMul, Nat.reduceLeDiff, Nat.reduceEqDiff, Nat.reduceBNe, Nat.ble_eq, UInt8.reduceToNat])) (fun _ => rfl) (fun r1 => ?_)
    | with_reducible refine call_to (fun _ (h : ref28_Group h_0 (ix ((ix h_0.Pages p_2).Shared) k7) = some _) => ref28_Group_fe h) (fun r13 => ?_)
    | with_reducible refine call_to_q (fun _ (h : ref28_Group h_0 (ix ((ix h_0.Pages p_2).Shared) k7) = some _) => ref28_Group_fe h) (fun _ => rfl) (fun r13 => ?_)
    | with_reducible refine call_to (fun _ (h : ref28_Group h_0 (ix ((ix h_0.Pages p_2).Shared) k7) = some _) => (by refine FE_cast ?_ (ref28_Group_fe h); simp -implicitDefEqProofs only [go_sem, start, startE, resVs, resV, resC, allV, retK, Nat.reduceBEq, Nat.reduceAdd, Nat.reduceMul, Nat.reduceLeDiff, Nat.reduceEqDiff, Nat.reduceBNe, Nat.ble_eq, UInt8.reduceToNat])) (fun r13 => ?_)
    | with_reducible refine call_to_q (fun _ (h : ref28_Group h_0 (ix ((ix h_0.Pages p_2).Shared) k7) = some _) => (by refine FE_cast ?_ (ref28_Group_fe h); simp -implicitDefEqProofs only [go_sem, start, startE, resVs, resV, resC, allV, retK, Nat.reduceBEq, Nat.reduceAdd, Nat.reduceMul, Nat.reduceLeDiff, Nat.reduceEqDiff, Nat.reduceBNe, Nat.ble_eq, UInt8.reduceToNat])) (fun _ => rfl) (fun r13 => ?_)
    | with_reducible refine call_to (fun _ (h : ref35_Joined out5 ([] : List api_Span) = some _) => ref35_Joined_fe h) (fun r14 => ?_)
    | with_reducible refine call_to_q (fun _ (h : ref35_Joined out5 ([] : List api_Span) = some _) => ref35_Joined_fe h) (fun _ => rfl) (fun r14 => ?_)
    | with_reducible refine call_to (fun _ (h : ref35_Joined out5 ([] : List api_Span) = some _) => (by refine FE_cast ?_ (ref35_Joined_fe h); simp -implicitDefEqProofs only [go_sem, start, startE, resVs, resV, resC, allV, retK, Nat.reduceBEq, Nat.reduceAdd, Nat.reduceMul, Nat.reduceLeDiff, Nat.reduceEqDiff, Nat.reduceBNe, Nat.ble_eq, UInt8.reduceToNat])) (fun r14 => ?_)
    | with_reducible refine call_to_q (fun _ (h : ref35_Joined out5 ([] : List api_Span) = some _) => (by refine FE_cast ?_ (ref35_Joined_fe h); simp -implicitDefEqProofs only [go_sem, start, startE, resVs, resV, resC, allV, retK, Nat.reduceBEq, Nat.reduceAdd, Nat.reduceMul, Nat.reduceLeDiff, Nat.reduceEqDiff, Nat.reduceBNe, Nat.ble_eq, UInt8.reduceToNat])) (fun _ => rfl) (fun r14 => ?_)
    | ((with_reducible refine join_to (live := [(2, false), (3, false), (7, false)]) (fun (out4 : (List api_Span)) => ⟨[(2, .int .i64 p_2), (3, .loc [.int .i64 h_0.FirstObject, .int .i64 h_0.FirstAt, .sl false 3 h_0.Pages.length (flat h_0.Pages), .int .i64 h_0.SharedObject, .int .i64 h_0.SharedAt, .int .i64 h_0.SharedFirst, .sl false 1 h_0.Shared.length (flat h_0.Shared)]), (7, .sl true 2 out4.length (flat out4))], [], s⟩) (fun J => ?_) ?_); rotate_left; rintro out4)
    | ((with_reducible refine join_to (live := [(2, false), (3, false), (7, false), (10, false)]) (fun (out11 : (List api_Span)) => ⟨[(2, .int .i64 p_2), (3, .loc [.int .i64 h_0.FirstObject, .int .i64 h_0.FirstAt, .sl false 3 h_0.Pages.length (flat h_0.Pages), .int .i64 h_0.SharedObject, .int .i64 h_0.SharedAt, .int .i64 h_0.SharedFirst, .sl false 1 h_0.Shared.length (flat h_0.Shared)]), (7, .sl true 2 out11.length (flat out11)), (10, .int .i64 k7)], [], s⟩) (fun J => ?_) ?_); rotate_left; rintro out11)
    | ((with_reducible refine iter_to (fun ((out6, k7) : (List api_Span) × Int) => ⟨[(2, .int .i64 p_2), (3, .loc [.int .i64 h_0.FirstObject, .int .i64 h_0.FirstAt, .sl false 3 h_0.Pages.length (flat h_0.Pages), .int .i64 h_0.SharedObject, .int .i64 h_0.SharedAt, .int .i64 h_0.SharedFirst, .sl false 1 h_0.Shared.length (flat h_0.Shared)]), (7, .sl true 2 out6.length (flat out6)), (10, .int .i64 k7)], [], s⟩) ?_ ?_); (first | exact rfl | simp -implicitDefEqProofs only [go_sem, start, startE, resVs, resV, resC, allV, retK, Nat.reduceBEq, Nat.reduceAdd, Nat.reduceMul, Nat.reduceLeDiff, Nat.reduceEqDiff, Nat.reduceBNe, Nat.ble_eq, UInt8.reduceToNat]); rintro J ⟨out6, k7⟩)
    | ((with_reducible refine join_to (live := [(7, false)]) (fun (out5 : (List api_Span)) => ⟨[(7, .sl true 2 out5.length (flat out5))], [], s⟩) (fun J => ?_) ?_); rotate_left; rintro out5)
    | simp -implicitDefEqProofs only [go_sem, start, startE, resVs, resV, resC, allV, retK, Nat.reduceBEq, Nat.reduceAdd, Nat.reduceMul, Nat.reduceLeDiff, Nat.reduceEqDiff, Nat.reduceBNe, Nat.ble_eq, UInt8.reduceToNat]
    | (rw [Nat.add_comm 1]; with_reducible exact tt_to))
theorem ref35_Page_fe {h_0 l_1 p_2} {s : Store} {r : (List api_Span)}  (h : ref35_Page h_0 l_1 p_2 = some r) : FE Go.Proofs.Try.prog 43 [.agg [.int .i64 h_0.FirstObject, .int .i64 h_0.FirstAt, .sl false 3 h_0.Pages.length (flat h_0.Pages), .int .i64 h_0.SharedObject, .int .i64 h_0.SharedAt, .int .i64 h_0.SharedFirst, .sl false 1 h_0.Shared.length (flat h_0.Shared)], .agg [.int .i64 l_1.Length, .int .i64 l_1.HintAt, .int .i64 l_1.HintLength, .int .i64 l_1.FirstObject, .int .i64 l_1.FirstEnd, .int .i64 l_1.Pages, .int .i64 l_1.Main], .int .i64 p_2] s [.sl false 2 r.length (flat r)] s := ref35_Page_fn   ⟨r, h, rfl, rfl⟩
/-- catchword/catchwordref35.Missing -/
def ref35_Missing (total_0 : Int) (known_1 : (List api_Span)) (l_2 : (List api_Span)) : Option ((List api_Span)) :=
  need ((([] : List api_Span).length + known_1.length) * 16 ≤ room) <|
  need ((known_1.length + [(api_Span.mk total_0 9223372036854775807)].length) * 16 ≤ room) <|
  bnd (ref35_Joined l_2 (known_1 ++ [(api_Span.mk total_0 9223372036854775807)])) fun r1 =>
  some r1
def ir_ref35_Missing : IC :=
 (.seq (.reg none [i1 6 (.mov true (.c (.sl true 2 0 [])))] [0, 1, 2])
 (.seq (.reg none [mt 7 2,
 i1 8 (.buildSl 2 0 [] []),
 mt 9 1,
 i1 10 (.append 2 16 (.t 8) (.t 9)),
 mv 11 0,
 i1 12 (.build [.int .i64 0, .int .i64 0] [(0, 1, (.t 11)), (1, 1, (.c (.int .i64 9223372036854775807)))]),
 i1 13 (.buildSl 2 1 [.int .i64 0, .int .i64 0] [(0, 2, (.t 12))]),
 i1 14 (.append 2 16 (.t 10) (.t 13)),
 i1 15 (.call 81 [(.t 7), (.t 14)]),
 mt 6 15] [6])
 .ret))
def res_ref35_Missing : List IRes := [⟨6, false, none⟩]
theorem is_ref35_Missing : fnIs Go.Proofs.Try.prog 49 16 res_ref35_Missing ir_ref35_Missing = true := by kernel_rfl
theorem ref35_Missing_fn {total_0 known_1 l_2} {s : Store} {Q : List AV → Store → Prop}  : ok (ref35_Missing total_0 known_1 l_2) (fun r => Q [.sl false 2 r.length (flat r)] s) → FN Go.Proofs.Try.prog 49 [.int .i64 total_0, .sl false 2 known_1.length (flat known_1), .sl false 2 l_2.length (flat l_2)] s Q := by
  intro h
  refine FN.of (draw_ok mix) is_ref35_Missing rfl (Nat.le_of_ble_eq_true rfl) ?_
  revert h
  rw [ir_ref35_Missing, res_ref35_Missing, ref35_Missing]
  repeat' (first
    | with_reducible exact tt_to
    | with_reducible refine and_to ?_ ?_
    | with_reducible exact im_and
    | with_reducible refine im_to ?_
    | with_reducible refine call_to (fun _ (h : ref35_Joined l_2 (known_1 ++ [(api_Span.mk total_0 9223372036854775807)]) = some _) => ref35_Joined_fe h) (fun r1 => ?_)
    | with_reducible refine call_to_q (fun _ (h : ref35_Joined l_2 (known_1 ++ [(api_Span.mk total_0 9223372036854775807)]) = some _) => ref35_Joined_fe h) (fun _ => rfl) (fun r1 => ?_)
    | with_reducible refine call_to (fun _ (h : ref35_Joined l_2 (known_1 ++ [(api_Span.mk total_0 9223372036854775807)]) = some _) => (by refine FE_cast ?_ (ref35_Joined_fe h); simp -implicitDefEqProofs only [go_sem, start, startE, resVs, resV, resC, allV, retK, Nat.reduceBEq, Nat.reduceAdd, Nat.reduceMul, Nat.reduceLeDiff, Nat.reduceEqDiff, Nat.reduceBNe, Nat.ble_eq, UInt8.reduceToNat])) (fun r1 => ?_)
    | with_reducible refine call_to_q (fun _ (h : ref35_Joined l_2 (known_1 ++ [(api_Span.mk total_0 9223372036854775807)]) = some _) => (by refine FE_cast ?_ (ref35_Joined_fe h); simp -implicitDefEqProofs only [go_sem, start, startE, resVs, resV, resC, allV, retK, Nat.reduceBEq, Nat.reduceAdd, Nat.reduceMul, Nat.reduceLeDiff, Nat.reduceEqDiff, Nat.reduceBNe, Nat.ble_eq, UInt8.reduceToNat])) (fun _ => rfl) (fun r1 => ?_)
    | simp -implicitDefEqProofs only [go_sem, start, startE, resVs, resV, resC, allV, retK, Nat.reduceBEq, Nat.reduceAdd, Nat.reduceMul, Nat.reduceLeDiff, Nat.reduceEqDiff, Nat.reduceBNe, Nat.ble_eq, UInt8.reduceToNat]
    | (rw [Nat.add_comm 1]; with_reducible exact tt_to))
theorem ref35_Missing_fe {total_0 known_1 l_2} {s : Store} {r : (List api_Span)}  (h : ref35_Missing total_0 known_1 l_2 = some r) : FE Go.Proofs.Try.prog 49 [.int .i64 total_0, .sl false 2 known_1.length (flat known_1), .sl false 2 l_2.length (flat l_2)] s [.sl false 2 r.length (flat r)] s := ref35_Missing_fn   ⟨r, h, rfl, rfl⟩
/-- catchword/catchwordref02.Same -/
def ref02_Same (a_0 : (List api_Span)) (b_1 : (List api_Span)) : Option (Bool) :=
  if (a_0.length : Int) != (b_1.length : Int) then
    some false
  else
    jnS (
      bndS (
        iter (fun (k2 : Int) =>
          if decide (k2 < (a_0.length : Int)) then
            need (0 ≤ k2 ∧ k2 < a_0.length) <|
            need (0 ≤ k2 ∧ k2 < b_1.length) <|
            need ((!(((ix a_0 k2).From) != ((ix b_1 k2).From))) = true → 0 ≤ k2 ∧ k2 < a_0.length) <|
            need ((!(((ix a_0 k2).From) != ((ix b_1 k2).From))) = true → 0 ≤ k2 ∧ k2 < b_1.length) <|
            if (((ix a_0 k2).From) != ((ix b_1 k2).From)) || (((ix a_0 k2).To) != ((ix b_1 k2).To)) then
              some (.inr (.inr false))
            else
              some (.inl (w64 (k2 + 1)))
          else
            some (.inr (.inl ()))) 0) (fun (_ : Unit) =>
        some (.inl ()))
      (fun (t3 : Bool) => some (.inr t3))) (fun (_ : Unit) =>
      some true)
    (fun (t1 : Bool) => some t1)
def ir_ref02_Same : IC :=
 (.seq (.reg none [i1 4 (.mov false (.c (.bool false)))] [0, 1])
 (.seq (.seq (.reg none [mv 6 0,
 i1 7 (.len 0 (.t 6)),
 mv 8 1,
 i1 9 (.len 0 (.t 8)),
 i1 10 (.bin .neq (.t 7) (.t 9))] [0, 1, 10])
 (.cond (.t 10) (.seq (.reg none [i1 4 (.mov false (.c (.bool false)))] [4])
 .ret)
 .skip))
 (.join [] (.seq (.reg none [i1 5 (.mov false (.c (.int .i64 0)))] [0, 1, 5])
 (.block 0 (.loop [(0, true), (1, true), (5, false)] (.seq (.seq (.reg none [mv 11 5,
 mv 12 0,
 i1 13 (.len 0 (.t 12)),
 i1 14 (.bin .lss (.t 11) (.t 13))] [0, 1, 5, 14])
 (.cond (.t 14) .skip
 (.exit 0)))
 (.seq (.block 1 (.seq (.reg (some 24) [mv 17 0,
 mv 18 5,
 i1 19 (.indexAddr [.int .i64 0, .int .i64 0] (.t 17) (.t 18)),
 i1 20 (.fieldAddr 0 (.t 19)),
 i1 21 (.load 1 false (.t 20)),
 mv 22 1,
 mv 23 5,
 i1 24 (.indexAddr [.int .i64 0, .int .i64 0] (.t 22) (.t 23)),
 i1 25 (.fieldAddr 0 (.t 24)),
 i1 26 (.load 1 false (.t 25)),
 i1 27 (.bin .neq (.t 21) (.t 26)),
 mv 28 27,
 mvg 29 0 28 false,
 mvg 30 5 28 false,
 i1g 31 28 false (.indexAddr [.int .i64 0, .int .i64 0] (.t 29) (.t 30)),
 i1g 32 28 false (.fieldAddr 1 (.t 31)),
 i1g 33 28 false (.load 1 false (.t 32)),
 mvg 34 1 28 false,
 mvg 35 5 28 false,
 i1g 36 28 false (.indexAddr [.int .i64 0, .int .i64 0] (.t 34) (.t 35)),
 i1g 37 28 false (.fieldAddr 1 (.t 36)),
 i1g 38 28 false (.load 1 false (.t 37)),
 i1g 39 28 false (.bin .neq (.t 33) (.t 38)),
 i1 40 (.pick (.t 28) (.c (.bool true)) (.t 39))] [0, 1, 5, 40])
 (.cond (.t 40) (.seq (.reg none [i1 4 (.mov false (.c (.bool false)))] [4])
 .ret)
 .skip)))
 (.reg none [mv 15 5,
 i1 16 (.bin .add (.t 15) (.c (.int .i64 1))),
 mv 5 16] [0, 1, 5]))))))
 (.seq (.reg none [i1 4 (.mov false (.c (.bool true)))] [4])
 .ret))))
def res_ref02_Same : List IRes := [⟨4, true, none⟩]
theorem is_ref02_Same : fnIs Go.Proofs.Try.prog 37 41 res_ref02_Same ir_ref02_Same = true := by kernel_rfl
theorem ref02_Same_fn {a_0 b_1} {s : Store} {Q : List AV → Store → Prop}  : ok (ref02_Same a_0 b_1) (fun r => Q [.bool r] s) → FN Go.Proofs.Try.prog 37 [.sl false 2 a_0.length (flat a_0), .sl false 2 b_1.length (flat b_1)] s Q := by
  intro h
  refine FN.of (draw_ok mix) is_ref02_Same rfl (Nat.le_of_ble_eq_true rfl) ?_
  revert h
  rw [ir_ref02_Same, res_ref02_Same, ref02_Same]
  repeat' (first
    | with_reducible exact tt_to
    | with_reducible refine and_to ?_ ?_
    | with_reducible exact im_and
    | with_reducible refine im_to ?_
    | ((with_reducible refine iter_to (fun (k2 : Int) => ⟨[(0, .sl false 2 a_0.length (flat a_0)), (1, .sl false 2 b_1.length (flat b_1)), (5, .int .i64 k2)], [], s⟩) ?_ ?_); (first | exact rfl | simp -implicitDefEqProofs only [go_sem, start, startE, resVs, resV, resC, allV, retK, Nat.reduceBEq, Nat.reduceAdd, Nat.reduceMul, Nat.reduceLeDiff, Nat.reduceEqDiff, Nat.reduceBNe, Nat.ble_eq, UInt8.reduceToNat]); rintro J k2)
    | ((with_reducible refine join_toS (fun (_ : Unit) => ⟨[], [], s⟩) (fun J => ?_) ?_); rotate_left; rintro _)
    | simp -implicitDefEqProofs only [go_sem, start, startE, resVs, resV, resC, allV, retK, Nat.reduceBEq, Nat.reduceAdd, Nat.reduceMul, Nat.reduceLeDiff, Nat.reduceEqDiff, Nat.reduceBNe, Nat.ble_eq, UInt8.reduceToNat])
theorem ref02_Same_fe {a_0 b_1} {s : Store} {r : Bool}  (h : ref02_Same a_0 b_1 = some r) : FE Go.Proofs.Try.prog 37 [.sl false 2 a_0.length (flat a_0), .sl false 2 b_1.length (flat b_1)] s [.bool r] s := ref02_Same_fn   ⟨r, h, rfl, rfl⟩
/-- catchword/ranges.Page$1 -/
def ranges_Page_1 (x_0 : api_Span) (is_1 : Bool) (c_2 : (List api_Span)) : Option ((List api_Span)) :=
  if is_1 then
    need ((c_2.length + [x_0].length) * 16 ≤ room) <|
    some (c_2 ++ [x_0])
  else
    some c_2
def ir_ranges_Page_1 : IC :=
 (.seq (.reg none [i1 3 (.boxL 2 (.t 0))] [1, 2, 3])
 (.seq (.reg none [mv 5 1] [2, 3, 5])
 (.cond (.t 5) (.reg none [i1 6 (.loadD (.t 2)),
 i1 7 (.load 2 true (.t 3)),
 i1 8 (.buildSl 2 1 [.int .i64 0, .int .i64 0] [(0, 2, (.t 7))]),
 i1 9 (.append 2 16 (.t 6) (.t 8)),
 i0 (.store 1 (.t 2) (.t 9))] [])
 .skip)))
def res_ranges_Page_1 : List IRes := []
theorem is_ranges_Page_1 : fnIs Go.Proofs.Try.prog 84 10 res_ranges_Page_1 ir_ranges_Page_1 = true := by kernel_rfl
theorem ranges_Page_1_fn {x_0 is_1 c_2} {B2 : Nat} {s : Store} {Q : List AV → Store → Prop} (hB2 : s B2 = some (.cells [.sl true 2 c_2.length (flat c_2)])) : ok (ranges_Page_1 x_0 is_1 c_2) (fun r => Q [] (s.set B2 (.cells [.sl true 2 r.length (flat r)]))) → FN Go.Proofs.Try.prog 84 [.agg [.int .i64 x_0.From, .int .i64 x_0.To], .bool is_1, .ref B2 0] s Q := by
  have hS : s = (s.set B2 (.cells [.sl true 2 c_2.length (flat c_2)])) := by simp only [set_eq' hB2]
  rw [hS]
  intro h
  refine FN.of (draw_ok mix) is_ranges_Page_1 rfl (Nat.le_of_ble_eq_true rfl) ?_
  revert h
  rw [ir_ranges_Page_1, res_ranges_Page_1, ranges_Page_1]
  repeat' (first
    | with_reducible exact tt_to
    | with_reducible refine and_to ?_ ?_
    | with_reducible exact im_and
    | with_reducible refine im_to ?_
    | simp -implicitDefEqProofs only [go_sem, start, startE, resVs, resV, resC, allV, retK, Nat.reduceBEq, Nat.reduceAdd, Nat.reduceMul, Nat.reduceLeDiff, Nat.reduceEqDiff, Nat.reduceBNe, Nat.ble_eq, UInt8.reduceToNat]
    | (rw [Nat.add_comm 1]; with_reducible exact tt_to))
/-- catchword/ranges.Page -/
def ranges_Page (h_0 : api_Hints) (l_1 : api_Lin) (p_2 : Int) : Option ((List api_Span)) :=
  if (decide (p_2 < 0)) || (decide (p_2 ≥ (h_0.Pages.length : Int))) then
    some ([] : List api_Span)
  else
    bnd (hints_Own h_0 l_1 p_2) fun r1 =>
    bnd (ranges_Page_1 r1.1 r1.2 ([] : List api_Span)) fun r2 =>
    jn (
      need (0 ≤ p_2 ∧ p_2 < h_0.Pages.length) <|
      iter (fun ((t4, t5, t6, o7) : (List Int) × Int × Int × (List api_Span)) =>
        if decide (t6 < t5) then
          need (0 ≤ t6 ∧ t6 < t4.length) <|
          bnd (hints_Group h_0 (ix t4 t6)) fun r9 =>
          bnd (ranges_Page_1 r9.1 r9.2 o7) fun r10 =>
          some (.inl (t4, t5, w64 (t6 + 1), r10))
        else
          some (.inr o7)) ((ix h_0.Pages p_2).Shared, (((ix h_0.Pages p_2).Shared).length : Int), 0, r2)) fun (o3 : (List api_Span)) =>
    bnd (span_Join o3 0) fun r11 =>
    some r11
theorem fnok_84 : (fnOK Go.Proofs.Try.prog 84 = true) = True := eq_true (by kernel_rfl)
def ir_ranges_Page : IC :=
 (.seq (.reg none [i1 3 (.boxL 7 (.t 0)),
 i1 4 (.boxL 7 (.t 1)),
 i1 6 (.mov true (.c (.sl true 2 0 [])))] [2, 3, 4])
 (.seq (.seq (.reg none [mv 11 2,
 i1 12 (.bin .lss (.t 11) (.c (.int .i64 0))),
 mv 13 12,
 mvg 14 2 13 false,
 i1g 15 13 false (.fieldAddr 2 (.t 3)),
 i1g 16 13 false (.load 1 false (.t 15)),
 i1g 17 13 false (.len 0 (.t 16)),
 i1g 18 13 false (.bin .geq (.t 14) (.t 17)),
 i1 19 (.pick (.t 13) (.c (.bool true)) (.t 18))] [2, 3, 4, 19])
 (.cond (.t 19) (.seq (.reg none [i1 6 (.mov true (.c (.sl true 2 0 [])))] [6])
 .ret)
 .skip))
 (.seq (.reg none [i1 7 (.allocS [.sl true 2 0 []])] [2, 3, 4, 7])
 (.seq (.reg none [i1 20 (.makeFn 84 [] [(.t 7)]),
 mv 8 20] [2, 3, 4, 7, 8])
 (.seq (.reg none [mv 21 8,
 i1 22 (.load 7 true (.t 3)),
 i1 23 (.load 7 true (.t 4)),
 mv 24 2,
 i1 25 (.call 85 [(.t 22), (.t 23), (.t 24)]),
 i1 26 (.extract (.t 25) 0),
 i1 27 (.extract (.t 25) 1),
 i1 28 (.callv (.t 21) [(.t 26), (.t 27)])] [2, 3, 7, 8])
 (.join [(7, false)] (.seq (.reg none [i1 29 (.fieldAddr 2 (.t 3)),
 i1 30 (.load 1 false (.t 29)),
 mv 31 2,
 i1 32 (.indexAddr [.int .i64 0, .int .i64 0, .sl false 1 0 []] (.t 30) (.t 31)),
 i1 33 (.fieldAddr 2 (.t 32)),
 i1 34 (.load 1 false (.t 33)),
 i1 35 (.len 0 (.t 34)),
 i1 36 (.mov false (.c (.int .i64 0)))] [3, 7, 8, 34, 35, 36])
 (.block 0 (.loop [(3, false), (7, false), (8, false), (34, true), (35, false), (36, false)] (.seq (.reg none [i1 37 (.bin .lss (.t 36) (.t 35))] [3, 7, 8, 34, 35, 36, 37])
 (.seq (.cond (.t 37) .skip
 (.exit 0))
 (.seq (.block 1 (.seq (.reg none [i1 38 (.indexAddr [.int .i64 0] (.t 34) (.t 36)),
 i1 39 (.load 1 false (.t 38)),
 mv 10 39] [3, 7, 8, 10, 34, 35, 36])
 (.reg none [mv 40 8,
 i1 41 (.load 7 true (.t 3)),
 mv 42 10,
 i1 43 (.call 86 [(.t 41), (.t 42)]),
 i1 44 (.extract (.t 43) 0),
 i1 45 (.extract (.t 43) 1),
 i1 46 (.callv (.t 40) [(.t 44), (.t 45)])] [3, 7, 8, 34, 35, 36])))
 (.reg none [i1 47 (.bin .add (.t 36) (.c (.int .i64 1))),
 mv 36 47] [3, 7, 8, 34, 35, 36])))))))
 (.seq (.reg none [i1 48 (.loadR [.sl false 2 0 []] false (.t 7)),
 i1 49 (.call 80 [(.t 48), (.c (.int .i64 0))]),
 mt 6 49] [6])
 .ret)))))))
def res_ranges_Page : List IRes := [⟨6, false, none⟩]
theorem is_ranges_Page : fnIs Go.Proofs.Try.prog 42 50 res_ranges_Page ir_ranges_Page = true := by kernel_rfl
theorem ranges_Page_fn {h_0 l_1 p_2} {s : Store} {Q : List AV → Store → Prop}  : ok (ranges_Page h_0 l_1 p_2) (fun r => Q [.sl false 2 r.length (flat r)] s) → FN Go.Proofs.Try.prog 42 [.agg [.int .i64 h_0.FirstObject, .int .i64 h_0.FirstAt, .sl false 3 h_0.Pages.length (flat h_0.Pages), .int .i64 h_0.SharedObject, .int .i64 h_0.SharedAt, .int .i64 h_0.SharedFirst, .sl false 1 h_0.Shared.length (flat h_0.Shared)], .agg [.int .i64 l_1.Length, .int .i64 l_1.HintAt, .int .i64 l_1.HintLength, .int .i64 l_1.FirstObject, .int .i64 l_1.FirstEnd, .int .i64 l_1.Pages, .int .i64 l_1.Main], .int .i64 p_2] s Q := by
  intro h
  refine FN.forget ?_
  refine FN.of (draw_ok mix) is_ranges_Page rfl (Nat.le_of_ble_eq_true rfl) ?_
  revert h
  rw [ir_ranges_Page, res_ranges_Page, ranges_Page]
  repeat' (first
    | with_reducible exact tt_to
    | with_reducible refine and_to ?_ ?_
    | with_reducible exact im_and
    | with_reducible refine im_to ?_
    | with_reducible refine call_to (fun _ (h : hints_Own h_0 l_1 p_2 = some _) => hints_Own_fe h) (fun r1 => ?_)
    | with_reducible refine call_to_q (fun _ (h : hints_Own h_0 l_1 p_2 = some _) => hints_Own_fe h) (fun _ => rfl) (fun r1 => ?_)
    | with_reducible refine call_to (fun _ (h : hints_Own h_0 l_1 p_2 = some _) => (by refine FE_cast ?_ (hints_Own_fe h); simp -implicitDefEqProofs only [go_sem, start, startE, resVs, resV, resC, allV, retK, Nat.reduceBEq, Nat.reduceAdd, Nat.reduceMul, Nat.reduceLeDiff, Nat.reduceEqDiff, Nat.reduceBNe, Nat.ble_eq, UInt8.reduceToNat, fnok_84])) (fun r1 => ?_)
    | with_reducible refine call_to_q (fun _ (h : hints_Own h_0 l_1 p_2 = some _) => (by refine FE_cast ?_ (hints_Own_fe h); simp -implicitDefEqProofs only [go_sem, start, startE, resVs, resV, resC, allV, retK, Nat.reduceBEq, Nat.reduceAdd, Nat.reduceMul, Nat.reduceLeDiff, Nat.reduceEqDiff, Nat.reduceBNe, Nat.ble_eq, UInt8.reduceToNat, fnok_84])) (fun _ => rfl) (fun r1 => ?_)
    | with_reducible refine fun hh => ranges_Page_1_fn (B2 := N1) (by simp -implicitDefEqProofs only [go_sem, start, startE, resVs, resV, resC, allV, retK, Nat.reduceBEq, Nat.reduceAdd, Nat.reduceMul, Nat.reduceLeDiff, Nat.reduceEqDiff, Nat.reduceBNe, Nat.ble_eq, UInt8.reduceToNat, fnok_84] <;> simp only [encM_nil])  (ok_mono (show ok (ranges_Page_1 r1.1 r1.2 ([] : List api_Span)) _ from hh) fun r2 => ?_)
    | with_reducible refine fun hh => FN_cast (by simp -implicitDefEqProofs only [go_sem, start, startE, resVs, resV, resC, allV, retK, Nat.reduceBEq, Nat.reduceAdd, Nat.reduceMul, Nat.reduceLeDiff, Nat.reduceEqDiff, Nat.reduceBNe, Nat.ble_eq, UInt8.reduceToNat, fnok_84]) (ranges_Page_1_fn (B2 := N1) (by simp -implicitDefEqProofs only [go_sem, start, startE, resVs, resV, resC, allV, retK, Nat.reduceBEq, Nat.reduceAdd, Nat.reduceMul, Nat.reduceLeDiff, Nat.reduceEqDiff, Nat.reduceBNe, Nat.ble_eq, UInt8.reduceToNat, fnok_84] <;> simp only [encM_nil])  (ok_mono (show ok (ranges_Page_1 r1.1 r1.2 ([] : List api_Span)) _ from hh) fun r2 => ?_))
    | with_reducible refine call_to (fun _ (h : hints_Group h_0 (ix t4 t6) = some _) => hints_Group_fe h) (fun r9 => ?_)
    | with_reducible refine call_to_q (fun _ (h : hints_Group h_0 (ix t4 t6) = some _) => hints_Group_fe h) (fun _ => rfl) (fun r9 => ?_)
    | with_reducible refine call_to (fun _ (h : hints_Group h_0 (ix t4 t6) = some _) => (by refine FE_cast ?_ (hints_Group_fe h); simp -implicitDefEqProofs only [go_sem, start, startE, resVs, resV, resC, allV, retK, Nat.reduceBEq, Nat.reduceAdd, Nat.reduceMul, Nat.reduceLeDiff, Nat.reduceEqDiff, Nat.reduceBNe, Nat.ble_eq, UInt8.reduceToNat, fnok_84])) (fun r9 => ?_)
    | with_reducible refine call_to_q (fun _ (h : hints_Group h_0 (ix t4 t6) = some _) => (by refine FE_cast ?_ (hints_Group_fe h); simp -implicitDefEqProofs only [go_sem, start, startE, resVs, resV, resC, allV, retK, Nat.reduceBEq, Nat.reduceAdd, Nat.reduceMul, Nat.reduceLeDiff, Nat.reduceEqDiff, Nat.reduceBNe, Nat.ble_eq, UInt8.reduceToNat, fnok_84])) (fun _ => rfl) (fun r9 => ?_)
    | with_reducible refine fun hh => ranges_Page_1_fn (B2 := N1) (by simp -implicitDefEqProofs only [go_sem, start, startE, resVs, resV, resC, allV, retK, Nat.reduceBEq, Nat.reduceAdd, Nat.reduceMul, Nat.reduceLeDiff, Nat.reduceEqDiff, Nat.reduceBNe, Nat.ble_eq, UInt8.reduceToNat, fnok_84] <;> simp only [encM_nil])  (ok_mono (show ok (ranges_Page_1 r9.1 r9.2 o7) _ from hh) fun r10 => ?_)
    | with_reducible refine fun hh => FN_cast (by simp -implicitDefEqProofs only [go_sem, start, startE, resVs, resV, resC, allV, retK, Nat.reduceBEq, Nat.reduceAdd, Nat.reduceMul, Nat.reduceLeDiff, Nat.reduceEqDiff, Nat.reduceBNe, Nat.ble_eq, UInt8.reduceToNat, fnok_84]) (ranges_Page_1_fn (B2 := N1) (by simp -implicitDefEqProofs only [go_sem, start, startE, resVs, resV, resC, allV, retK, Nat.reduceBEq, Nat.reduceAdd, Nat.reduceMul, Nat.reduceLeDiff, Nat.reduceEqDiff, Nat.reduceBNe, Nat.ble_eq, UInt8.reduceToNat, fnok_84] <;> simp only [encM_nil])  (ok_mono (show ok (ranges_Page_1 r9.1 r9.2 o7) _ from hh) fun r10 => ?_))
    | with_reducible refine call_to (fun _ (h : span_Join o3 0 = some _) => span_Join_fe h) (fun r11 => ?_)
    | with_reducible refine call_to_q (fun _ (h : span_Join o3 0 = some _) => span_Join_fe h) (fun _ => rfl) (fun r11 => ?_)
    | with_reducible refine call_to (fun _ (h : span_Join o3 0 = some _) => (by refine FE_cast ?_ (span_Join_fe h); simp -implicitDefEqProofs only [go_sem, start, startE, resVs, resV, resC, allV, retK, Nat.reduceBEq, Nat.reduceAdd, Nat.reduceMul, Nat.reduceLeDiff, Nat.reduceEqDiff, Nat.reduceBNe, Nat.ble_eq, UInt8.reduceToNat, fnok_84])) (fun r11 => ?_)
    | with_reducible refine call_to_q (fun _ (h : span_Join o3 0 = some _) => (by refine FE_cast ?_ (span_Join_fe h); simp -implicitDefEqProofs only [go_sem, start, startE, resVs, resV, resC, allV, retK, Nat.reduceBEq, Nat.reduceAdd, Nat.reduceMul, Nat.reduceLeDiff, Nat.reduceEqDiff, Nat.reduceBNe, Nat.ble_eq, UInt8.reduceToNat, fnok_84])) (fun _ => rfl) (fun r11 => ?_)
    | ((with_reducible refine iter_to (fun ((t4, t5, t6, o7) : (List Int) × Int × Int × (List api_Span)) => ⟨[(3, .loc [.int .i64 h_0.FirstObject, .int .i64 h_0.FirstAt, .sl false 3 h_0.Pages.length (flat h_0.Pages), .int .i64 h_0.SharedObject, .int .i64 h_0.SharedAt, .int .i64 h_0.SharedFirst, .sl false 1 h_0.Shared.length (flat h_0.Shared)]), (7, .ref N1 0), (8, .fn 84 [] [.ref N1 0]), (34, .sl false 1 t4.length (flat t4)), (35, .int .i64 t5), (36, .int .i64 t6)], [], (s.set N1 (.cells [.sl true 2 o7.length (flat o7)]))⟩) ?_ ?_); (first | exact rfl | simp -implicitDefEqProofs only [go_sem, start, startE, resVs, resV, resC, allV, retK, Nat.reduceBEq, Nat.reduceAdd, Nat.reduceMul, Nat.reduceLeDiff, Nat.reduceEqDiff, Nat.reduceBNe, Nat.ble_eq, UInt8.reduceToNat, fnok_84]); rintro J ⟨t4, t5, t6, o7⟩)
    | ((with_reducible refine join_to (fun (o3 : (List api_Span)) => ⟨[(7, .ref N1 0)], [], (s.set N1 (.cells [.sl true 2 o3.length (flat o3)]))⟩) (fun J => ?_) ?_); rotate_left; rintro o3)
    | ((fail_if_success (have _x := sN1)); with_reducible intro hh N1 hN1; (try simp only [set_none] at hN1); have sN1 := hN1; revert hh)
    | with_reducible exact fun hh => ⟨_, SubS.set (SubS.refl _) (by simp [Store.set, sN1]), hh⟩
    | with_reducible exact fun hh => ⟨_, SubS.refl _, hh⟩
    | simp -implicitDefEqProofs only [go_sem, start, startE, resVs, resV, resC, allV, retK, Nat.reduceBEq, Nat.reduceAdd, Nat.reduceMul, Nat.reduceLeDiff, Nat.reduceEqDiff, Nat.reduceBNe, Nat.ble_eq, UInt8.reduceToNat, fnok_84]
    | simp -implicitDefEqProofs only [go_sem, start, startE, resVs, resV, resC, allV, retK, Nat.reduceBEq, Nat.reduceAdd, Nat.reduceMul, Nat.reduceLeDiff, Nat.reduceEqDiff, Nat.reduceBNe, Nat.ble_eq, UInt8.reduceToNat, fnok_84])
theorem ranges_Page_fe {h_0 l_1 p_2} {s : Store} {r : (List api_Span)}  (h : ranges_Page h_0 l_1 p_2 = some r) : FE Go.Proofs.Try.prog 42 [.agg [.int .i64 h_0.FirstObject, .int .i64 h_0.FirstAt, .sl false 3 h_0.Pages.length (flat h_0.Pages), .int .i64 h_0.SharedObject, .int .i64 h_0.SharedAt, .int .i64 h_0.SharedFirst, .sl false 1 h_0.Shared.length (flat h_0.Shared)], .agg [.int .i64 l_1.Length, .int .i64 l_1.HintAt, .int .i64 l_1.HintLength, .int .i64 l_1.FirstObject, .int .i64 l_1.FirstEnd, .int .i64 l_1.Pages, .int .i64 l_1.Main], .int .i64 p_2] s [.sl false 2 r.length (flat r)] s := ranges_Page_fn   ⟨r, h, rfl, rfl⟩
end Go.AB
end

section
namespace Go.AB
open Go

theorem same_refl {a : List api_Span} (h : a.length < 4611686018427387904) : ref02_Same a a = some true := by
  unfold ref02_Same
  rw [if_neg (by simp)]
  refine jnS_of (z := .inl ()) ?_ rfl
  refine bndS_of (z := .inl ()) ?_ rfl
  refine iter_cnt a.length h (fun k hk => ?_) ?_
  · rw [if_pos (by simpa using hk), need_pos (by omega), need_pos (by omega), need_pos (fun _ => by omega), need_pos (fun _ => by omega), if_neg (by simp)]
  · rw [if_neg (by simp)]
theorem join0_len (l : List api_Span) : (join0 l).length ≤ l.length := by
  have h1 := joinL_len 0 (srt (full l)) []
  have h2 : (srt (full l)).length = (full l).length := List.length_mergeSort _
  have h3 : (full l).length ≤ l.length := List.length_filter_le _ _
  have h4 : (join0 l).length ≤ ([] : List api_Span).length + (srt (full l)).length := h1
  have h5 : ([] : List api_Span).length = 0 := rfl
  omega
theorem ahead_eq {l : api_Lin} (h1 : l.FirstEnd ≤ 9223372036854775807) (h2 : l.Length ≤ 9223372036854775807) : ∃ o, ranges_Ahead l = some o ∧ ref35_Ahead l = some o ∧ o.length ≤ 2 := by
  have hr : ([api_Span.mk 1024 l.FirstEnd, api_Span.mk l.Main l.Length] : List api_Span).length * 16 ≤ room := (show 2 * 16 ≤ room by decide)
  have hi : SpI [api_Span.mk 1024 l.FirstEnd, api_Span.mk l.Main l.Length] := fun x hx => by
    simp at hx
    rcases hx with rfl | rfl
    · exact h1
    · exact h2
  refine ⟨join0 [api_Span.mk 1024 l.FirstEnd, api_Span.mk l.Main l.Length], ?_, ?_, ?_⟩
  · unfold ranges_Ahead; rw [span_Join0 hr]; rfl
  · unfold ref35_Ahead; rw [joined_join0 hi hr]; rfl
  · exact join0_len _
theorem chunk_eq {a z t : Int} (ha : -9223372036854775808 ≤ a ∧ a ≤ 9223372036854775807) (hz : -9223372036854775808 ≤ z ∧ z ≤ 9223372036854775807) (ht : -9223372036854775808 ≤ t ∧ t ≤ 9223372036854775807) :
    ∃ x, ranges_Chunk a z t = some x ∧ ref35_Chunk a z t = some x ∧ ((a < 0 ∨ a ≥ t ∨ z < 1 ∨ t > 2147483647) → x = ⟨0, 0⟩) ∧
      (0 ≤ a → a < t → 1 ≤ z → t ≤ 2147483647 → x.From ≤ a ∧ a < x.To ∧ x.From.tmod z = 0 ∧ x.To ≤ t ∧ (x.To = t ∨ w64 (x.To - x.From) = z) ∧ w64 (x.To - x.From) ≤ z) := by
  unfold ranges_Chunk ref35_Chunk
  by_cases hc : a < 0 ∨ a ≥ t ∨ z < 1 ∨ t > 2147483647
  · have e : ((((decide (a < 0)) || (decide (a ≥ t))) || (decide (z < 1))) || (decide (t > 2147483647))) = true := by simp; omega
    rw [e]
    exact ⟨⟨0, 0⟩, rfl, rfl, fun _ => rfl, fun _ _ _ _ => by omega⟩
  · have e : ((((decide (a < 0)) || (decide (a ≥ t))) || (decide (z < 1))) || (decide (t > 2147483647))) = false := by simp; omega
    rw [e]
    have h0 : 0 ≤ a ∧ a < t ∧ 1 ≤ z ∧ t ≤ 2147483647 := by omega
    have hr0 : 0 ≤ a.tmod z := Int.tmod_nonneg _ h0.1
    have hr1 : a.tmod z < z := Int.tmod_lt_of_pos _ (by omega)
    have hq : z * a.tdiv z + a.tmod z = a := Int.mul_tdiv_add_tmod a z
    have hq0 : 0 ≤ a.tdiv z := Int.tdiv_nonneg h0.1 (by omega)
    have hq1 : a.tdiv z ≤ a := by
      have h1 : 1 * a.tdiv z ≤ z * a.tdiv z := Int.mul_le_mul_of_nonneg_right h0.2.2.1 hq0
      omega
    have hm : (a.tdiv z + 1) * z = a - a.tmod z + z := by rw [Int.add_mul, Int.mul_comm]; omega
    have hm2 : a.tdiv z * z = a - a.tmod z := by rw [Int.mul_comm]; omega
    have hge : 0 ≤ a - a.tmod z := by rw [← hm2]; exact Int.mul_nonneg hq0 (by omega)
    have hmod : (a - a.tmod z).tmod z = 0 := by
      rw [← hm2, Int.mul_tmod_left]
    rw [if_neg Bool.false_ne_true, if_neg Bool.false_ne_true, need_pos (show z ≠ 0 by omega), need_pos (show z ≠ 0 by omega)]
    rw [w64_id (n := a - a.tmod z) (by omega) (by omega), w64_id (n := t - (a - a.tmod z)) (by omega) (by omega), w64_id (n := a.tdiv z) (by omega) (by omega), w64_id (n := a.tdiv z + 1) (by omega) (by omega), hm]
    by_cases h1 : z > t - (a - a.tmod z)
    · rw [if_pos (by simpa using h1)]
      refine ⟨⟨a - a.tmod z, t⟩, rfl, ?_, fun h => absurd h hc, fun _ _ _ _ => ⟨by show a - a.tmod z ≤ a; omega, h0.2.1, hmod, Int.le_refl _, .inl rfl, ?_⟩⟩
      · rw [if_neg ?_]
        · show (some (⟨w64 (a.tdiv z * z), t⟩ : api_Span)) = _
          rw [hm2, w64_id (by omega) (by omega)]
        · intro h
          simp only [Bool.and_eq_true, decide_eq_true_iff] at h
          rw [w64_id (by omega) (by omega)] at h
          omega
      · show w64 (t - (a - a.tmod z)) ≤ z
        rw [w64_id (by omega) (by omega)]; omega
    · rw [if_neg (by simpa using h1), w64_id (n := a - a.tmod z + z) (by omega) (by omega)]
      refine ⟨⟨a - a.tmod z, a - a.tmod z + z⟩, rfl, ?_, fun h => absurd h hc, fun _ _ _ _ => ⟨by show a - a.tmod z ≤ a; omega, by show a < a - a.tmod z + z; omega, hmod, by show a - a.tmod z + z ≤ t; omega, ?_, ?_⟩⟩
      · by_cases h2 : a - a.tmod z + z < t
        · rw [if_pos (by simp only [Bool.and_eq_true, decide_eq_true_iff]; omega)]
          show (some (⟨w64 (a.tdiv z * z), a - a.tmod z + z⟩ : api_Span)) = _
          rw [hm2, w64_id (by omega) (by omega)]
        · rw [if_neg (by simp only [Bool.and_eq_true, decide_eq_true_iff]; omega)]
          show (some (⟨w64 (a.tdiv z * z), t⟩ : api_Span)) = _
          rw [hm2, w64_id (by omega) (by omega), show t = a - a.tmod z + z by omega]
      · show a - a.tmod z + z = t ∨ w64 (a - a.tmod z + z - (a - a.tmod z)) = z
        rw [w64_id (by omega) (by omega)]; omega
      · show w64 (a - a.tmod z + z - (a - a.tmod z)) ≤ z
        rw [w64_id (by omega) (by omega)]; omega
end Go.AB
end

section
set_option maxRecDepth 4000
namespace Go.AB
open Go
/-- catchword/ranges.Missing -/
def ir_ranges_Missing : IC :=
 (.seq (.reg none [i1 4 (.mov true (.c (.sl true 2 0 [])))] [0, 1])
 (.seq (.reg none [i1 11 (.build [.arr 0 0 0 0] []),
 i1 12 (.boxN 2 1 (.t 11)),
 mv 5 12] [0, 1, 5])
 (.seq (.seq (.reg none [mv 13 0,
 i1 14 (.call 93 [(.t 13)]),
 i1 15 (.len 0 (.t 14)),
 i1 16 (.mov false (.c (.int .i64 0)))] [0, 1, 5, 14, 15, 16])
 (.block 0 (.loop [(0, false), (1, false), (5, false), (14, false), (15, false), (16, false)] (.seq (.reg none [i1 17 (.bin .lss (.t 16) (.t 15))] [0, 1, 5, 14, 15, 16, 17])
 (.seq (.cond (.t 17) .skip
 (.exit 0))
 (.seq (.block 1 (.seq (.reg none [i1 18 (.indexAddr [.int .i64 0, .int .i64 0] (.t 14) (.t 16)),
 i1 19 (.load 2 true (.t 18)),
 i1 7 (.allocL [.int .i64 0, .int .i64 0]),
 i0 (.store 2 (.t 7) (.t 19))] [0, 1, 5, 7, 14, 15, 16])
 (.reg none [mv 20 5,
 i1 21 (.load 2 true (.t 7)),
 i1 22 (.call 92 [(.t 20), (.t 21)])] [0, 1, 5, 14, 15, 16])))
 (.reg none [i1 23 (.bin .add (.t 16) (.c (.int .i64 1))),
 mv 16 23] [0, 1, 5, 14, 15, 16])))))))
 (.seq (.reg none [i1 8 (.mov true (.c (.sl true 2 0 [])))] [0, 1, 5, 8])
 (.seq (.seq (.reg none [mt 24 1,
 i1 25 (.call 80 [(.t 24), (.c (.int .i64 0))]),
 i1 26 (.len 0 (.t 25)),
 i1 27 (.mov false (.c (.int .i64 0)))] [0, 5, 8, 25, 26, 27])
 (.block 2 (.loop [(0, false), (5, false), (8, false), (25, false), (26, false), (27, false)] (.seq (.reg none [i1 28 (.bin .lss (.t 27) (.t 26))] [0, 5, 8, 25, 26, 27, 28])
 (.seq (.cond (.t 28) .skip
 (.exit 2))
 (.seq (.block 3 (.seq (.reg none [i1 29 (.indexAddr [.int .i64 0, .int .i64 0] (.t 25) (.t 27)),
 i1 30 (.load 2 true (.t 29)),
 i1 10 (.allocL [.int .i64 0, .int .i64 0]),
 i0 (.store 2 (.t 10) (.t 30))] [0, 5, 8, 10, 25, 26, 27])
 (.reg (some 7) [mt 31 8,
 mv 32 5,
 i1 33 (.load 2 true (.t 10)),
 mv 34 0,
 i1 35 (.call 95 [(.t 34)]),
 i1 36 (.call 94 [(.t 33), (.t 35)]),
 i1 37 (.call 90 [(.t 32), (.t 36)]),
 i1 38 (.append 2 16 (.t 31) (.t 37)),
 mt 8 38] [0, 5, 8, 25, 26, 27])))
 (.reg none [i1 39 (.bin .add (.t 27) (.c (.int .i64 1))),
 mv 27 39] [0, 5, 8, 25, 26, 27])))))))
 (.seq (.reg none [mt 40 8,
 mt 4 40] [4])
 .ret))))))
def res_ranges_Missing : List IRes := [⟨4, true, none⟩]
theorem is_ranges_Missing : fnIs Go.Proofs.Try.prog 48 41 res_ranges_Missing ir_ranges_Missing = true := by kernel_rfl


def knownB (kn : List api_Span) : List api_Span × Int → Option ((List api_Span × Int) ⊕ List api_Span) := fun (out, k) =>
  if decide (k < (kn.length : Int)) then
    need (0 ≤ k ∧ k < kn.length) <|
    bnd (Set_Put out (ix kn k)) fun out => some (.inl (out, w64 (k + 1)))
  else some (.inr out)
def missingB (g : SrcG) (known js : List api_Span) : List api_Span × Int → Option ((List api_Span × Int) ⊕ List api_Span) := fun (out, k) =>
  if decide (k < (js.length : Int)) then
    need (0 ≤ k ∧ k < js.length) <|
    bnd (span_Clip (ix js k) g.total) fun x =>
    bnd (Set_Missing known x) fun ms =>
    need ((out.length + ms.length) * 16 ≤ room) <| some (.inl (out ++ ms, w64 (k + 1)))
  else some (.inr out)
def ranges_Missing (g : SrcG) (l : List api_Span) : Option (List api_Span) :=
  bnd (Set_All g.known) fun kn =>
  bnd (iter (knownB kn) ([], 0)) fun known =>
  bnd (span_Join l 0) fun js =>
  iter (missingB g known js) ([], 0)
theorem ranges_Missing_fn {s0 s : Store} {B : Nat} {g : SrcG} {l : List api_Span} {Q : List AV → Store → Prop} (h : SrcAt s0 s B g) : ok (ranges_Missing g l) (fun r => Q [slv r] s) → FN Go.Proofs.Try.prog 48 [.ref B 0, .sl false 2 l.length (flat l)] s Q := by
  intro hh
  refine FN.weak (FN.of (draw_ok mix) is_ranges_Missing rfl (Nat.le_of_ble_eq_true rfl) ?_)
  rw [ir_ranges_Missing, res_ranges_Missing]
  unfold ranges_Missing at hh
  rw [ok_bnd] at hh
  simp -implicitDefEqProofs only [go_sem, start, startE, resVs, resV, resC, allV, retK, Nat.reduceBEq, Nat.reduceAdd, Nat.reduceMul, Nat.reduceLeDiff, Nat.reduceEqDiff, Nat.reduceBNe, Nat.ble_eq, UInt8.reduceToNat]
  intro K hK
  have hSK : ∀ x, SrcAt s0 (s.set K x) B g := fun x => h.set hK
  refine Source_Known_fn (hSK _) (ok_mono hh fun kn hh => ?_)
  rw [ok_bnd] at hh
  simp -implicitDefEqProofs only [go_sem, start, startE, resVs, resV, resC, allV, retK, Nat.reduceBEq, Nat.reduceAdd, Nat.reduceMul, Nat.reduceLeDiff, Nat.reduceEqDiff, Nat.reduceBNe, Nat.ble_eq, UInt8.reduceToNat]
  revert hh
  refine iter_to (fun st => ⟨[(0, .ref B 0), (1, .sl false 2 l.length (flat l)), (5, .ref K 0), (14, slv kn), (15, .int .i64 (kn.length : Nat)), (16, .int .i64 st.2)], [], s.set K (.cells [slv st.1])⟩) rfl ?_
  rintro J ⟨out, k⟩
  rw [knownB]
  simp -implicitDefEqProofs only [go_sem, start, startE, resVs, resV, resC, allV, retK, Nat.reduceBEq, Nat.reduceAdd, Nat.reduceMul, Nat.reduceLeDiff, Nat.reduceEqDiff, Nat.reduceBNe, Nat.ble_eq, UInt8.reduceToNat]
  rintro ⟨w1, w2⟩
  have hat : ∀ l, SetAt (s.set K (.cells [slv l])) K 0 [slv l] l := fun l => ⟨set_same .., rfl⟩
  refine ⟨fun hk => ⟨(w1 hk).1, ?_⟩, fun hk => ?_⟩
  · refine Set_Put_fn (hat out) (ok_mono (w1 hk).2 fun kn' hJ => ?_)
    rw [set_set]
    simp -implicitDefEqProofs only [go_sem, start, startE, resVs, resV, resC, allV, retK, Nat.reduceBEq, Nat.reduceAdd, Nat.reduceMul, Nat.reduceLeDiff, Nat.reduceEqDiff, Nat.reduceBNe, Nat.ble_eq, UInt8.reduceToNat]
    exact hJ
  · have w2 := w2 hk
    clear w1 hh
    refine call_to (fun _ h => span_Join_fe h) (fun js hj => ?_) w2
    simp -implicitDefEqProofs only [go_sem, start, startE, resVs, resV, resC, allV, retK, Nat.reduceBEq, Nat.reduceAdd, Nat.reduceMul, Nat.reduceLeDiff, Nat.reduceEqDiff, Nat.reduceBNe, Nat.ble_eq, UInt8.reduceToNat]
    revert hj
    refine iter_to (fun st => ⟨[(0, .ref B 0), (5, .ref K 0), (8, slv st.1), (25, slv js), (26, .int .i64 (js.length : Nat)), (27, .int .i64 st.2)], [], s.set K (.cells [slv out])⟩) rfl ?_
    rintro J ⟨o2, k2⟩
    rw [missingB]
    simp -implicitDefEqProofs only [go_sem, start, startE, resVs, resV, resC, allV, retK, Nat.reduceBEq, Nat.reduceAdd, Nat.reduceMul, Nat.reduceLeDiff, Nat.reduceEqDiff, Nat.reduceBNe, Nat.ble_eq, UInt8.reduceToNat]
    rintro ⟨v1, v2⟩
    refine ⟨fun hk2 => ?_, fun hk2 => ⟨s, (Sub.refl s).set hK, v2 hk2⟩⟩
    obtain ⟨v0, x, hx, ms, hms, v3, v4⟩ := v1 hk2
    refine ⟨v0, [.int .i64 g.total], rfl, Source_Total_fn (hSK _) ⟨rfl, rfl⟩, ?_⟩
    simp -implicitDefEqProofs only [go_sem, start, startE, resVs, resV, resC, allV, retK, Nat.reduceBEq, Nat.reduceAdd, Nat.reduceMul, Nat.reduceLeDiff, Nat.reduceEqDiff, Nat.reduceBNe, Nat.ble_eq, UInt8.reduceToNat]
    refine ⟨[.agg [.int .i64 x.From, .int .i64 x.To]], rfl, span_Clip_fe hx, ?_⟩
    simp -implicitDefEqProofs only [go_sem, start, startE, resVs, resV, resC, allV, retK, Nat.reduceBEq, Nat.reduceAdd, Nat.reduceMul, Nat.reduceLeDiff, Nat.reduceEqDiff, Nat.reduceBNe, Nat.ble_eq, UInt8.reduceToNat]
    refine ⟨[slw ms], rfl, Set_Missing_fn (hat out) ⟨ms, hms, rfl, rfl⟩, ?_⟩
    simp -implicitDefEqProofs only [go_sem, start, startE, resVs, resV, resC, allV, retK, Nat.reduceBEq, Nat.reduceAdd, Nat.reduceMul, Nat.reduceLeDiff, Nat.reduceEqDiff, Nat.reduceBNe, Nat.ble_eq, UInt8.reduceToNat]
    refine ⟨v3, ?_⟩
    have e : slv (o2 ++ ms) = .sl true 2 (o2.length + ms.length) (flat o2 ++ flat ms) := by unfold slv; rw [flat_append, List.length_append]
    rw [← e]
    exact v4

end Go.AB
end

section
set_option maxRecDepth 100000
namespace Go.AB
open Go

theorem form1 {a b : Int} (h : 0 ≤ a ∧ a < b) : Form [⟨a, b⟩] := ⟨fun x hx => by obtain rfl := List.mem_singleton.1 hx; exact h, List.pairwise_singleton _ _⟩
theorem spI1 {a b : Int} (h : b ≤ 9223372036854775807) : SpI [⟨a, b⟩] := fun x hx => by obtain rfl := List.mem_singleton.1 hx; exact h
theorem join_form {l : List api_Span} (hr : l.length * 16 ≤ room) (h : Form l) (hi : SpI l) : span_Join l 0 = some l := by
  rw [span_Join0 hr, join0_form' h hi]
theorem join_one {a b : Int} (h : 0 ≤ a ∧ a < b) (hb : b ≤ 9223372036854775807) : span_Join [⟨a, b⟩] 0 = some [⟨a, b⟩] :=
  join_form (show 1 * 16 ≤ room by decide) (form1 h) (spI1 hb)
theorem put_one {a b : Int} (h : 0 ≤ a ∧ a < b) (hb : b ≤ 9223372036854775807) : Set_Put [] ⟨a, b⟩ = some [⟨a, b⟩] :=
  need_of (show (0 + 1) * 16 ≤ room by decide) (join_one h hb)
theorem wk_put : Source_Put ⟨3, []⟩ 0 [97, 98, 99] = some (⟨3, [⟨0, 3⟩]⟩, 0) := by
  unfold Source_Put
  rw [if_neg (by decide), if_neg (by decide)]
  refine bnd_of (a := [⟨0, 3⟩]) (by kernel_rfl) ?_
  refine bnd_of (a := ()) (by kernel_rfl) ?_
  exact bnd_of (a := [⟨0, 3⟩]) (put_one (by decide) (by decide)) rfl
theorem wk_miss1 : ranges_Missing ⟨9, []⟩ [⟨3, 20⟩] = some [⟨3, 9⟩] := by
  unfold ranges_Missing
  refine bnd_of (a := []) (by kernel_rfl) ?_
  refine bnd_of (a := []) (by kernel_rfl) ?_
  refine bnd_of (a := [⟨3, 20⟩]) (join_one (by decide) (by decide)) ?_
  kernel_rfl
theorem wk_miss2 : ranges_Missing ⟨3, [⟨0, 3⟩]⟩ [⟨0, 3⟩] = some [] := by
  unfold ranges_Missing
  refine bnd_of (a := [⟨0, 3⟩]) (by kernel_rfl) ?_
  refine bnd_of (a := [⟨0, 3⟩]) ?_ ?_
  · refine iter_upto (o := ([⟨0, 3⟩] : List api_Span)) 1 (fun k => if k = 0 then (([] : List api_Span), (0 : Int)) else ([⟨0, 3⟩], 1)) rfl (by decide) (fun k hk => ?_) (by kernel_rfl)
    obtain rfl : k = 0 := by omega
    show knownB [⟨0, 3⟩] ([], 0) = some (.inl ([⟨0, 3⟩], 1))
    simp only [knownB]
    rw [if_pos (by decide), need_pos (by decide)]
    exact bnd_of (a := [⟨0, 3⟩]) (put_one (by decide) (by decide)) rfl
  refine bnd_of (a := [⟨0, 3⟩]) (join_one (by decide) (by decide)) ?_
  kernel_rfl
theorem wk_ahead : ranges_Ahead ⟨3100, 0, 0, 0, 2000, 0, 3000⟩ = some [⟨1024, 2000⟩, ⟨3000, 3100⟩] := by
  unfold ranges_Ahead
  refine bnd_of (a := [⟨1024, 2000⟩, ⟨3000, 3100⟩]) (join_form (l := [⟨1024, 2000⟩, ⟨3000, 3100⟩]) (show 2 * 16 ≤ room by decide) ⟨fun x hx => ?_, ?_⟩ fun x hx => ?_) rfl
  · simp at hx; rcases hx with rfl | rfl <;> decide
  · refine List.Pairwise.cons (fun x hx => ?_) (List.pairwise_singleton _ _)
    obtain rfl := List.mem_singleton.1 hx; decide
  · simp at hx; rcases hx with rfl | rfl <;> decide
theorem wk_page : ranges_Page ⟨0, 500, [⟨1, 200, []⟩], 0, 0, 0, []⟩ ⟨0, 0, 0, 0, 0, 0, 0⟩ 0 = some [⟨500, 700⟩] := by
  unfold ranges_Page
  rw [if_neg (by decide)]
  refine bnd_of (a := (⟨500, 700⟩, true)) (by kernel_rfl) ?_
  refine bnd_of (a := [⟨500, 700⟩]) (by kernel_rfl) ?_
  refine jn_of (a := [⟨500, 700⟩]) (by kernel_rfl) ?_
  exact bnd_of (a := [⟨500, 700⟩]) (join_one (by decide) (by decide)) rfl
theorem wk_chunk : ranges_Chunk 130 64 150 = some ⟨128, 150⟩ := by kernel_rfl
end Go.AB
end
