/- From a law's readings to typed values. -/
import Derived.Test.YtbinmjafmcaehaaTy3
import Derived.ProofKit
import Derived.OpenShut
namespace Go.AB
open Go Go.RowKit Go.ChangeShapes Go.WideShapes

/-- At a law's start: so many first cells of each block never change. -/
def bigR (N : Nat) (w : World) (b : Nat) : Nat := if b < w.heap.size then N else 0

theorem law_calls' {P : Program} {w : World} {f : FuncId} {args : List AV} {vs : Array Value} (N : Nat) (hf : FN P f args noStore fun rs _ => rs = [.bool true]) (ha : ArgsR w (bigR N w) args vs) :
    Calls P f vs w fun e w' => e = .returned (.bool true) ∧ Below w.heap.size w w' := by
  refine (hf ⟨bigR N w, fun _ => .none⟩ w vs ⟨fun _ _ => rfl, fun b hb => ?_⟩ (fun b => .inl rfl) (fun b o h => by cases h) ha).mono fun e w' ⟨v, rs, s', G', he, hq, _, _, hr, hp⟩ => ?_
  · show bigR N w b = 0
    unfold bigR
    rw [if_neg (by omega)]
  · subst hq
    refine ⟨?_, ⟨hp.os, hp.tape, hp.output, hp.size, fun b hb => hp.frame b hb (.inr rfl)⟩⟩
    rw [he]
    have := VR.inv_bool hr.1
    rw [this]

def VRs (w : World) (R : Nat → Nat) (as : List AV) (cs : List Value) : Prop := cs.length = as.length ∧ ∀ (j : Nat) (a : AV) (v : Value), as[j]? = some a → cs[j]? = some v → VR w R a v

theorem VRs.one {w : World} {R : Nat → Nat} {a : AV} {v : Value} (h : VR w R a v) : VRs w R [a] [v] := by
  refine ⟨rfl, fun j a' v' h1 h2 => ?_⟩
  cases j with
  | zero => cases h1; cases h2; exact h
  | succ j => simp at h1
theorem VRs.append {w : World} {R : Nat → Nat} {as bs : List AV} {cs ds : List Value} (h : VRs w R as cs) (k : VRs w R bs ds) : VRs w R (as ++ bs) (cs ++ ds) := by
  refine ⟨by rw [List.length_append, List.length_append, h.1, k.1], fun j a v h1 h2 => ?_⟩
  rcases Nat.lt_or_ge j as.length with hj | hj
  · rw [List.getElem?_append_left hj] at h1
    rw [List.getElem?_append_left (by rw [h.1]; exact hj)] at h2
    exact h.2 j a v h1 h2
  · rw [List.getElem?_append_right hj] at h1
    rw [List.getElem?_append_right (by rw [h.1]; exact hj), h.1] at h2
    exact k.2 _ a v h1 h2

/-- What cells of a Go type read as: values of a Lean type. -/
def OpensC (P : Program) (t : TypeId) {α : Type} (n : Nat) (C : α → List AV) (wf : α → Prop) : Prop :=
  ∀ (H : Type) (enc : TypeId × Value → H) (w : World) (fuel : Nat) (cs : List Value) (x : DataW H × List MemPlace), DataW.trod enc P w 0 (fun _ => true) true fuel t cs = some x →
    cs.length = n ∧ ∃ a : α, wf a ∧ Fl (C a) ∧ ∃ N0, ∀ N, N0 ≤ N → VRs w (bigR N w) (C a) cs
def Opens (P : Program) (t : TypeId) (α : Type) [Enc α] (wf : α → Prop) : Prop := OpensC P t (Enc.w α) (Enc.cells : α → List AV) wf

section
variable {P : Program} {t : TypeId}
theorem fl_one {a : AV} (h : flatV a = true) : Fl [a] := by
  intro c hc
  rw [List.mem_singleton] at hc; rw [hc]; exact h

theorem opens_bool (ht : P.underlying t = some .bool) : Opens P t Bool fun _ => True := by
  intro H enc w fuel cs x h
  obtain ⟨b, rfl, _⟩ := DataW.trod_bool ht h
  exact ⟨rfl, b, trivial, fl_one rfl, 0, fun N _ => VRs.one (.bool b)⟩
theorem opens_int (ht : P.underlying t = some (.int .i64)) : Opens P t Int fun n => -9223372036854775808 ≤ n ∧ n ≤ 9223372036854775807 := by
  intro H enc w fuel cs x h
  obtain ⟨n, rfl, _, hw⟩ := DataW.trod_int ht h
  refine ⟨rfl, n, ?_, fl_one rfl, 0, fun N _ => VRs.one (.int _ n)⟩
  simpa [Lit.wf, IntKind.min, IntKind.max, IntKind.signed, IntKind.bits] using hw
theorem opens_u8 (ht : P.underlying t = some (.int .u8)) : Opens P t UInt8 fun _ => True := by
  intro H enc w fuel cs x h
  obtain ⟨n, rfl, _, hw⟩ := DataW.trod_int ht h
  have hb : 0 ≤ n ∧ n ≤ 255 := by simpa [Lit.wf, IntKind.min, IntKind.max, IntKind.signed, IntKind.bits] using hw
  refine ⟨rfl, UInt8.ofNat n.toNat, trivial, fl_one rfl, 0, fun N _ => ?_⟩
  have e : ((UInt8.ofNat n.toNat).toNat : Int) = n := by
    rw [UInt8.toNat_ofNat']; omega
  show VRs _ _ [.int .u8 ((UInt8.ofNat n.toNat).toNat : Int)] _
  rw [e]
  exact VRs.one (.int _ n)
theorem opens_u32 (ht : P.underlying t = some (.int .u32)) : Opens P t UInt32 fun _ => True := by
  intro H enc w fuel cs x h
  obtain ⟨n, rfl, _, hw⟩ := DataW.trod_int ht h
  have hb : 0 ≤ n ∧ n ≤ 4294967295 := by simpa [Lit.wf, IntKind.min, IntKind.max, IntKind.signed, IntKind.bits] using hw
  refine ⟨rfl, UInt32.ofNat n.toNat, trivial, fl_one rfl, 0, fun N _ => ?_⟩
  have e : ((UInt32.ofNat n.toNat).toNat : Int) = n := by
    rw [UInt32.toNat_ofNat']; omega
  show VRs _ _ [.int .u32 ((UInt32.ofNat n.toNat).toNat : Int)] _
  rw [e]
  exact VRs.one (.int _ n)
theorem opens_u64 (ht : P.underlying t = some (.int .u64)) : Opens P t UInt64 fun _ => True := by
  intro H enc w fuel cs x h
  obtain ⟨n, rfl, _, hw⟩ := DataW.trod_int ht h
  have hb : 0 ≤ n ∧ n ≤ 18446744073709551615 := by simpa [Lit.wf, IntKind.min, IntKind.max, IntKind.signed, IntKind.bits] using hw
  refine ⟨rfl, UInt64.ofNat n.toNat, trivial, fl_one rfl, 0, fun N _ => ?_⟩
  have e : ((UInt64.ofNat n.toNat).toNat : Int) = n := by
    rw [UInt64.toNat_ofNat']; omega
  show VRs _ _ [.int .u64 ((UInt64.ofNat n.toNat).toNat : Int)] _
  rw [e]
  exact VRs.one (.int _ n)
theorem opens_str (ht : P.underlying t = some .string) : Opens P t Str fun s => s.b.length ≤ maxLen := by
  intro H enc w fuel cs x h
  obtain ⟨s, rfl, _, hs⟩ := DataW.trod_string ht h
  refine ⟨rfl, ⟨s.data.toList⟩, by simpa using hs, fl_one rfl, 0, fun N _ => ?_⟩
  have := VR.str (w := w) (R := bigR N w) s.data.toList
  exact VRs.one this

theorem choose_list {α : Type} {Q : Nat → α → Prop} : ∀ n : Nat, (∀ i, i < n → ∃ a, Q i a) → ∃ l : List α, l.length = n ∧ ∀ (i : Nat) (a : α), l[i]? = some a → Q i a
  | 0, _ => ⟨[], rfl, fun i a h => by simp at h⟩
  | n + 1, h => by
    obtain ⟨l, h1, h2⟩ := choose_list n fun i hi => h i (by omega)
    obtain ⟨a, ha⟩ := h n (by omega)
    refine ⟨l ++ [a], by simp [h1], fun i x hx => ?_⟩
    rcases Nat.lt_or_ge i n with hi | hi
    · rw [List.getElem?_append_left (by omega)] at hx; exact h2 i x hx
    · rw [List.getElem?_append_right (by omega)] at hx
      have : i = n := by
        have := (List.getElem?_eq_some_iff.1 hx).1
        simp at this; omega
      subst this
      rw [h1, Nat.sub_self] at hx
      injection hx with hx; rw [← hx]; exact ha
theorem common {Q : Nat → Nat → Prop} : ∀ n : Nat, (∀ i, i < n → ∃ N0, ∀ N, N0 ≤ N → Q i N) → ∃ N0, ∀ N, N0 ≤ N → ∀ i, i < n → Q i N
  | 0, _ => ⟨0, fun _ _ i h => absurd h (Nat.not_lt_zero i)⟩
  | n + 1, h => by
    obtain ⟨a, ha⟩ := common n fun i hi => h i (by omega)
    obtain ⟨b, hb⟩ := h n (by omega)
    refine ⟨max a b, fun N hN i hi => ?_⟩
    rcases Nat.lt_or_ge i n with h1 | h1
    · exact ha N (by omega) i h1
    · have : i = n := by omega
      rw [this]; exact hb N (by omega)

theorem flat_get {α : Type} [Enc α] (l : List α) {i r : Nat} {a : α} (hi : l[i]? = some a) (hr : r < Enc.w α) : (flat l)[i * Enc.w α + r]? = (Enc.cells a)[r]? := by
  have h1 := flat_sub l (Enc.w α) i 1 rfl
  obtain ⟨hlt, he⟩ := List.getElem?_eq_some_iff.1 hi
  have h2 : (l.drop i).take 1 = [a] := by rw [List.drop_eq_getElem_cons hlt, he]; rfl
  rw [h2, flat_cons, flat_nil, List.append_nil, Nat.one_mul] at h1
  rw [← h1]
  unfold AB.sub
  rw [List.getElem?_take, if_pos hr, List.getElem?_drop]

/-- A slice of them, as an argument. -/
theorem open_slice {H : Type} {enc : TypeId × Value → H} {w : World} {e : TypeId} {α : Type} [Enc α] {wf : α → Prop} {b0 : Nat} {v : Value} {d : DataW H} {ps : List MemPlace}
    (ht : P.underlying t = some (.slice e)) (hc : P.cellsOf e = Enc.w α) (he : Opens P e α wf) (hval : Value.okWide P w .any b0 t v) (h : DataW.Trod enc P w 0 (fun _ => true) true t v d ps) :
    ∃ l : List α, l.length ≤ maxLen ∧ (∀ a ∈ l, wf a) ∧ ∃ N0, ∀ N, N0 ≤ N → VR w (bigR N w) (.sl false (Enc.w α) l.length (flat l)) v := by
  have hv : v = .slice none 0 0 ∨ ∃ a len cap, v = .slice (some a) len cap ∧ w.has P .any b0 a e cap := by
    unfold Value.okWide Cell.okWide Cell.ok at hval
    rw [ht] at hval
    dsimp only at hval
    split at hval <;> simp_all
    exact ⟨_, _, _, ⟨rfl, rfl, rfl⟩, hval.2.2⟩
  obtain ⟨fuel, hf⟩ := h
  rcases hv with rfl | ⟨a, len, cap, rfl, hhas⟩
  · exact ⟨[], Nat.zero_le _, (fun _ h => absurd h List.not_mem_nil), 0, fun N _ => .slnil _ _⟩
  · obtain ⟨_, hsp, row, cells, hsh, _⟩ := hhas
    obtain ⟨b, off, spot⟩ := a
    simp only at hsp hsh
    subst hsp
    have hb : b < w.heap.size := by
      rcases Nat.lt_or_ge b w.heap.size with h | h
      · exact h
      · unfold World.shape? at hsh
        rw [Array.getElem?_eq_none h] at hsh
        cases hsh
    rcases DataW.trod_slice ht hf with ⟨h0, _⟩ | ⟨a, len', cap', elems, rest, n, _, hcs, _, _, hl, hm, hlen, hel, _⟩
    · simp [Value.cells] at h0
    · have hcs' : (a = ⟨b, off, none⟩ ∧ len' = len) ∧ cap' = cap := by
        simp [Value.cells] at hcs
        exact ⟨⟨hcs.1.symm, hcs.2.1.symm⟩, hcs.2.2.symm⟩
      obtain ⟨⟨rfl, rfl⟩, rfl⟩ := hcs'
      have each : ∀ i, i < len' → ∃ x : α × List Value, wf x.1 ∧ Fl (Enc.cells x.1) ∧ w.cells? 0 ((⟨b, off, none⟩ : Addr).add (i * Enc.w α)) (Enc.w α) = some x.2 ∧ ∃ N0, ∀ N, N0 ≤ N → VRs w (bigR N w) (Enc.cells x.1) x.2 := by
        intro i hi
        have h1 := hel i hi
        rw [hc, List.getElem?_eq_getElem (by omega), Option.bind_eq_some_iff] at h1
        obtain ⟨cs, h2, h3⟩ := h1
        obtain ⟨_, x, h4, h5, h6⟩ := he H enc w n cs _ h3
        exact ⟨(x, cs), h4, h5, h2, h6⟩
      obtain ⟨L, hL, hQ⟩ := choose_list len' each
      have hx : ∀ i, i < len' → ∃ x, L[i]? = some x := fun i hi => ⟨L[i]'(by omega), List.getElem?_eq_getElem (by omega)⟩
      obtain ⟨N0, hN0⟩ := common (Q := fun i N => ∀ x, L[i]? = some x → VRs w (bigR N w) (Enc.cells x.1) x.2) len' fun i hi => by
        obtain ⟨x, hx⟩ := hx i hi
        obtain ⟨_, _, _, N0, h⟩ := hQ i x hx
        exact ⟨N0, fun N hN y hy => by rw [hx] at hy; cases hy; exact h N hN⟩
      have hwf : ∀ a ∈ L.map (·.1), wf a ∧ Fl (Enc.cells a) := by
        intro a ha
        obtain ⟨x, hx, rfl⟩ := List.mem_map.1 ha
        obtain ⟨i, hi⟩ := List.getElem?_of_mem hx
        have := hQ i x hi
        exact ⟨this.1, this.2.1⟩
      have hget : ∀ (j : Nat) (c : AV), (flat (L.map (·.1)))[j]? = some c → ∃ v, w.cell? ⟨b, off + j, none⟩ = some v ∧ ∀ N, N0 ≤ N → VR w (bigR N w) c v := by
        intro j c hj
        have hw : 0 < Enc.w α := Enc.pos
        have hjl := (List.getElem?_eq_some_iff.1 hj).1
        rw [flat_len, List.length_map, hL] at hjl
        have hi : j / Enc.w α < len' := Nat.div_lt_of_lt_mul (by rw [Nat.mul_comm]; exact hjl)
        have hr : j % Enc.w α < Enc.w α := Nat.mod_lt _ hw
        have hje : j = j / Enc.w α * Enc.w α + j % Enc.w α := by rw [Nat.mul_comm]; exact (Nat.div_add_mod _ _).symm
        obtain ⟨x, hx⟩ := hx _ hi
        have h1 := flat_get (L.map (·.1)) (i := j / Enc.w α) (a := x.1) (by rw [List.getElem?_map, hx]; rfl) hr
        rw [← hje, hj] at h1
        obtain ⟨_, _, h2, _⟩ := hQ _ x hx
        obtain ⟨_, h3, h4⟩ := World.cells?_some h2
        have h5 := h4 _ hr
        rw [add_plain, add_plain, Nat.add_assoc, ← hje] at h5
        refine ⟨x.2[j % Enc.w α]'(by omega), by rw [h5, List.getElem?_eq_getElem], fun N hN => ?_⟩
        exact (hN0 N hN _ hi x hx).2 _ _ _ h1.symm (List.getElem?_eq_getElem _)
      refine ⟨L.map (·.1), by rw [List.length_map, hL]; omega, fun a ha => (hwf a ha).1, max N0 (off + len' * Enc.w α), fun N hN => ?_⟩
      rw [List.length_map, hL]
      refine .sl false (Enc.w α) len' _ b off cap' (fun j => (w.cell? ⟨b, off + j, none⟩).getD default) ?_ ?_ ?_ hl ?_ ?_
      · intro c hcm
        unfold flat at hcm
        obtain ⟨l, hl, hcl⟩ := List.mem_flatten.1 hcm
        obtain ⟨a, ha, rfl⟩ := List.mem_map.1 hl
        exact (hwf a ha).2 c hcl
      · rw [flat_len, List.length_map, hL]
      · rw [flat_len, List.length_map, hL]
        unfold bigR
        rw [if_pos hb]; omega
      · intro j c hj
        obtain ⟨v, h1, _⟩ := hget j c hj
        rw [h1]; rfl
      · intro j c hj
        obtain ⟨v, h1, h2⟩ := hget j c hj
        simp only [h1, Option.getD_some]; exact h2 N (by omega)
end
end Go.AB
