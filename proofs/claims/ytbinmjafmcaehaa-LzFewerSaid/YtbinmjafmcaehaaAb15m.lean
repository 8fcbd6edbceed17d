/- The abstract layer, part 15m: maps, how they are asked and written. -/
import Derived.Test.YtbinmjafmcaehaaAb15
import Derived.MapKept
import Derived.ChangeKeysEq
namespace Go.AB
open Go Go.MapKept

/-- The values that are keys of a kind. -/
def KV : KeyK → Value → Prop
  | .int k, v => ∃ n, v = .int k n
  | .str, v => ∃ s, v = .string s
  | .bool, v => ∃ b, v = .bool b
  | .bytes n, v => ∃ xs : Array Value, v = .agg xs ∧ xs.size = n ∧ ∀ u ∈ xs, ∃ m, u = .int .u8 m

section
variable {P : Program} {w : World}

structure KeyRun (P : Program) (kt : TypeId) (kk : KeyK) : Prop where
  check : ∀ (w : World) (em : Bool) (v : Value), KV kk v → (Instr.checkKey em 10000 kt v).run P w = .ok () w
  find : ∀ (w : World) (x : Value), KV kk x → ∀ es : List MapEntry, (∀ e ∈ es, KV kk e.key) →
    ((Instr.findKey kt x es).run P w = .ok none w ∧ ∀ e ∈ es, e.key ≠ x) ∨ ∃ j e, (Instr.findKey kt x es).run P w = .ok (some (j, e.val)) w ∧ es[j]? = some e ∧ e.key = x ∧ ∀ (i : Nat) (e' : MapEntry), i < j → es[i]? = some e' → e'.key ≠ x
  stays : ∀ (w : World) (v : Value), KV kk v → (Instr.keyThatStays v v).run P w = .ok v w

theorem findNow_first {d : TypeDesc} {k : Value} (hk : IsKey d k) : ∀ (l : List MapEntry) (i : Nat), (∀ x ∈ l, IsKey d x.key) →
    (Instr.findNow d k l i = some none ∧ ∀ x ∈ l, x.key ≠ k) ∨ ∃ j e, Instr.findNow d k l i = some (some (i + j, e.val)) ∧ l[j]? = some e ∧ e.key = k ∧ ∀ (m : Nat) (e' : MapEntry), m < j → l[m]? = some e' → e'.key ≠ k
  | [], _, _ => .inl ⟨rfl, by simp⟩
  | e :: es, i, h => by
    obtain ⟨r, hr, hiff⟩ := sameNow_of_keys hk (h e (.head _))
    cases r with
    | true => exact .inr ⟨0, e, by simp [Instr.findNow, hr], rfl, (hiff.1 rfl).symm, fun m e' hm => by omega⟩
    | false =>
      have hne : e.key ≠ k := fun q => by have := hiff.2 q.symm; cases this
      rcases findNow_first hk es (i + 1) (fun x hx => h x (.tail _ hx)) with ⟨h1, h2⟩ | ⟨j, e', h1, h2, h3, h4⟩
      · exact .inl ⟨by simp [Instr.findNow, hr, h1], fun x hx => by
          cases hx with
          | head => exact hne
          | tail _ hx => exact h2 x hx⟩
      · refine .inr ⟨j + 1, e', by simp [Instr.findNow, hr, h1]; omega, by simpa using h2, h3, fun m x hm hx => ?_⟩
        cases m with
        | zero => simp at hx; subst hx; exact hne
        | succ m => exact h4 m x (by omega) (by simpa using hx)

theorem keyRun_scalar {kt : TypeId} {d : TypeDesc} {kk : KeyK} (hd : P.underlying kt = some d) (hK : ∀ v, KV kk v → IsKey d v) : KeyRun P kt kk where
  check := fun w em v hv => run_checkKey hd (hK v hv) em 9999
  find := fun w x hx es hes => by
    rcases findNow_first (hK x hx) es 0 (fun e he => hK _ (hes e he)) with ⟨h1, h2⟩ | ⟨j, e, h1, h2, h3, h4⟩
    · exact .inl ⟨run_findKey hd h1, h2⟩
    · exact .inr ⟨j, e, by rw [run_findKey hd h1, Nat.zero_add], h2, h3, h4⟩
  stays := fun w v hv => run_keyThatStays (hK v hv)

theorem run_partU8 {e off : Nat} {i : TypeInfo} (he : P.underlying e = some (.int .u8)) (hi : P.info? e = some i) (h1 : i.size = 1) (xs : Array Value) (x : Value) (hx : xs[off]? = some x) (w : World) : (part e xs off).run P w = .ok x w := by
  have hag : (isAgg e).run P w = .ok false w := run_isAgg (multi := false) (by unfold aggIs; rw [he]; rfl) w
  simp [part, hag, hx]

theorem run_eqItems {e : TypeId} {i : TypeInfo} (he : P.underlying e = some (.int .u8)) (hi : P.info? e = some i) (h1 : i.size = 1) (d : Nat) (xs ys : Array Value) (n : Nat)
    (hx : ∀ j, j < n → ∃ a b, xs[j]? = some (.int .u8 a) ∧ ys[j]? = some (.int .u8 b)) : ∀ (l : List Nat), (∀ j ∈ l, j < n) → ∀ w,
    ∃ r : Bool, (Op.eqItems (d + 1) e (P.cellsOf e) xs ys l).run P w = .ok r w ∧ (r = true ↔ ∀ j ∈ l, xs[j]? = ys[j]?)
  | [], _, w => ⟨true, by simp [Op.eqItems], by simp⟩
  | j :: l, hl, w => by
    obtain ⟨a, b, ha, hb⟩ := hx j (hl j (.head _))
    have hc : P.cellsOf e = 1 := by unfold Program.cellsOf; rw [hi]; simpa using h1
    have e1 := run_partU8 he hi h1 xs _ ha w
    have e2 := run_partU8 he hi h1 ys _ hb w
    have e3 := run_equalIn_int (P := P) w d e .u8 .u8 a b he
    obtain ⟨r, hr, hiff⟩ := run_eqItems he hi h1 d xs ys n hx l (fun j hj => hl j (.tail _ hj)) w
    rw [hc] at hr
    by_cases hab : a = b
    · subst hab
      refine ⟨r, ?_, ?_⟩
      · simp only [Op.eqItems, hc, Nat.mul_one, Sem.run_bind, e1, e2, e3, Result.andThen_ok, beq_self_eq_true, Bool.not_true, Bool.false_eq_true, if_false]
        exact hr
      · rw [hiff]
        simp [ha, hb]
    · refine ⟨false, ?_, ?_⟩
      · have : (a == b) = false := by simpa using hab
        simp [Op.eqItems, hc, e1, e2, e3, this]
      · simp [ha, hb, hab]

theorem run_equal_bytes {kt e : TypeId} {n : Nat} {i : TypeInfo} (hk : P.underlying kt = some (.array n e)) (he : P.underlying e = some (.int .u8)) (hi : P.info? e = some i) (h1 : i.size = 1) {x y : Value} (hx : KV (.bytes n) x) (hy : KV (.bytes n) y) (w : World) :
    ∃ r : Bool, (Op.equal kt x y).run P w = .ok r w ∧ (r = true ↔ y = x) := by
  obtain ⟨xs, rfl, hxs, hx'⟩ := hx
  obtain ⟨ys, rfl, hys, hy'⟩ := hy
  have hxy : ∀ j, j < n → ∃ a b, xs[j]? = some (.int .u8 a) ∧ ys[j]? = some (.int .u8 b) := fun j hj => by
    obtain ⟨a, ha⟩ := hx' xs[j] (Array.getElem_mem _)
    obtain ⟨b, hb⟩ := hy' ys[j] (Array.getElem_mem _)
    exact ⟨a, b, by rw [Array.getElem?_eq_getElem (by omega), ha], by rw [Array.getElem?_eq_getElem (by omega), hb]⟩
  obtain ⟨r, hr, hiff⟩ := run_eqItems he hi h1 9997 xs ys n hxy (List.range n) (fun j hj => List.mem_range.1 hj) w
  refine ⟨r, ?_, ?_⟩
  · show (Op.equalIn (9999 + 1) kt (.agg xs) (.agg ys)).run P w = _
    rw [run_equalIn_array w 9999 xs ys hk hi]
    obtain ⟨r', hr', hiff'⟩ := run_eqItems he hi h1 9998 xs ys n hxy (List.range n) (fun j hj => List.mem_range.1 hj) w
    have : r = r' := by
      cases r <;> cases r' <;> simp_all
    rw [this]; exact hr'
  · rw [hiff]
    constructor
    · intro h
      have : ys = xs := by
        apply Array.ext (by omega)
        intro j h1 h2
        have := h j (List.mem_range.2 (by omega))
        rw [Array.getElem?_eq_getElem (by omega), Array.getElem?_eq_getElem (by omega)] at this
        injection this with this; exact this.symm
      rw [this]
    · intro h j _
      injection h with h
      rw [h]

theorem findAsking_first {kt e : TypeId} {n : Nat} {i : TypeInfo} (hk : P.underlying kt = some (.array n e)) (he : P.underlying e = some (.int .u8)) (hi : P.info? e = some i) (h1 : i.size = 1) {k : Value} (hkv : KV (.bytes n) k) : ∀ (l : List MapEntry) (i : Nat), (∀ x ∈ l, KV (.bytes n) x.key) → ∀ w : World,
    ((Instr.findAsking kt k l i).run P w = .ok none w ∧ ∀ x ∈ l, x.key ≠ k) ∨ ∃ j e, (Instr.findAsking kt k l i).run P w = .ok (some (i + j, e.val)) w ∧ l[j]? = some e ∧ e.key = k ∧ ∀ (m : Nat) (e' : MapEntry), m < j → l[m]? = some e' → e'.key ≠ k
  | [], _, _, w => .inl ⟨by simp [Instr.findAsking], by simp⟩
  | x :: es, i0, h, w => by
    obtain ⟨r, hr, hiff⟩ := run_equal_bytes hk he hi h1 hkv (h x (.head _)) w
    cases r with
    | true => exact .inr ⟨0, x, by simp [Instr.findAsking, hr], rfl, hiff.1 rfl, fun m e' hm => by omega⟩
    | false =>
      have hne : x.key ≠ k := fun q => by have := hiff.2 q; cases this
      rcases findAsking_first hk he hi h1 hkv es (i0 + 1) (fun x hx => h x (.tail _ hx)) w with ⟨h1, h2⟩ | ⟨j, e', h1, h2, h3, h4⟩
      · exact .inl ⟨by simp [Instr.findAsking, hr, h1], fun y hy => by
          cases hy with
          | head => exact hne
          | tail _ hy => exact h2 y hy⟩
      · refine .inr ⟨j + 1, e', by simp [Instr.findAsking, hr, h1]; omega, by simpa using h2, h3, fun m x hm hx => ?_⟩
        cases m with
        | zero => simp at hx; subst hx; exact hne
        | succ m => exact h4 m x (by omega) (by simpa using hx)

theorem checkKey_bytes {kt e : TypeId} {n : Nat} {i : TypeInfo} (hk : P.underlying kt = some (.array n e)) (he : P.underlying e = some (.int .u8)) (hi : P.info? e = some i) (h1 : i.size = 1) {k : Value} (hkv : KV (.bytes n) k) (em : Bool) (w : World) : (Instr.checkKey em 10000 kt k).run P w = .ok () w := by
  obtain ⟨xs, rfl, hxs, hx'⟩ := hkv
  show (Instr.checkKey em (9999 + 1) kt (.agg xs)).run P w = _
  unfold Instr.checkKey
  simp only [Sem.run_bind, run_underlying hk, Result.andThen_ok]
  have key : ∀ (l : List Nat), (∀ j ∈ l, j < n) → ∀ w : World, (forIn (m := Sem) l PUnit.unit fun i _ => do
      let a ← part e xs (i * (← sizeOf e))
      Instr.checkKey em 9999 e a
      pure (ForInStep.yield PUnit.unit)).run P w = .ok PUnit.unit w := by
    intro l
    induction l with
    | nil => intro _ w; simp
    | cons j l ih =>
      intro hl w
      have hj := hl j (.head _)
      obtain ⟨a, ha⟩ := hx' xs[j] (Array.getElem_mem _)
      have e1 := run_partU8 he hi h1 xs (.int .u8 a) (off := j) (by rw [Array.getElem?_eq_getElem (by omega), ha]) w
      have e2 : (Instr.checkKey em (9998 + 1) e (.int .u8 a)).run P w = .ok () w := run_checkKey (d := .int .u8) (k := .int .u8 a) he (show IsKey (.int .u8) (.int .u8 a) from rfl) em 9998
      have hs : sizeIs P e 1 = true := by unfold sizeIs; rw [hi]; simpa using h1
      rw [List.forIn_cons]
      simp only [Sem.run_bind, run_sizeOf hs w, Result.andThen_ok, Nat.mul_one, e1, e2, Sem.run_pure]
      exact ih (fun j hj => hl j (.tail _ hj)) w
  simp only [Std.Legacy.Range.forIn_eq_forIn_range', Std.Legacy.Range.size, Nat.sub_zero, Nat.add_one_sub_one, Nat.div_one]
  rw [key (List.range' 0 n) (fun j hj => by simp at hj; omega) w]
  simp

theorem keyRun_of {kt : TypeId} {kk : KeyK} (h : keyT P kt kk = true) : KeyRun P kt kk := by
  cases kk with
  | int k =>
    simp only [keyT] at h
    split at h <;> first | (cases h; done) | skip
    rename_i k' hk
    have : k = k' := by simpa [kEq] using h
    subst this
    exact keyRun_scalar hk fun v ⟨n, e⟩ => by subst e; rfl
  | str =>
    simp only [keyT] at h
    split at h <;> first | (cases h; done) | skip
    rename_i hk
    exact keyRun_scalar hk fun v ⟨n, e⟩ => by subst e; trivial
  | bool =>
    simp only [keyT] at h
    split at h <;> first | (cases h; done) | skip
    rename_i hk
    exact keyRun_scalar hk fun v ⟨n, e⟩ => by subst e; trivial
  | bytes n =>
    simp only [keyT] at h
    split at h <;> first | (cases h; done) | skip
    rename_i m e hk
    simp only [Bool.and_eq_true, beq_iff_eq] at h
    obtain ⟨⟨rfl, he⟩, hs⟩ := h
    split at he <;> first | (cases he; done) | skip
    rename_i he'
    have he := he'
    unfold sizeIs at hs
    split at hs <;> first | (cases hs; done) | skip
    rename_i i hi
    have h1 : i.size = 1 := by simpa using hs
    refine ⟨fun w em v hv => checkKey_bytes hk he hi h1 hv em w, fun w x hx es hes => ?_, fun w v hv => ?_⟩
    · obtain ⟨xs, rfl, hx1, hx2⟩ := hx
      have hrun : ∀ r, (Instr.findAsking kt (.agg xs) es).run P w = .ok r w → (∀ e ∈ es, True) → ((Instr.findNow (.array m e) (.agg xs) es 0 = none) ∨ es = []) → (Instr.findKey kt (.agg xs) es).run P w = .ok r w := by
        intro r hr _ hn
        rcases hn with hn | hn
        · simp [Instr.findKey, run_underlying hk, hn, hr]
        · subst hn
          simp [Instr.findAsking] at hr
          simp [Instr.findKey, run_underlying hk, Instr.findNow, hr]
      have hn : Instr.findNow (.array m e) (.agg xs) es 0 = none ∨ es = [] := by
        cases es with
        | nil => exact .inr rfl
        | cons x l => exact .inl (by simp [Instr.findNow, Instr.sameNow])
      rcases findAsking_first hk he hi h1 ⟨xs, rfl, hx1, hx2⟩ es 0 hes w with ⟨q1, q2⟩ | ⟨j, e', q1, q2, q3, q4⟩
      · exact .inl ⟨hrun _ q1 (fun _ _ => trivial) hn, q2⟩
      · rw [Nat.zero_add] at q1
        exact .inr ⟨j, e', hrun _ q1 (fun _ _ => trivial) hn, q2, q3, q4⟩
    · obtain ⟨xs, rfl, hx1, hx2⟩ := hv
      have : Instr.sameBits 10000 (.agg xs) (.agg xs) = true := by
        show Instr.sameBits (9999 + 1) (.agg xs) (.agg xs) = true
        unfold Instr.sameBits
        simp only [beq_self_eq_true, Bool.true_and, List.all_eq_true]
        intro p hp
        have h2 := List.of_mem_zip hp
        have h3 : p.1 = p.2 := by
          obtain ⟨i, hi⟩ := List.mem_iff_getElem?.1 hp
          rw [List.getElem?_zip_eq_some] at hi
          rw [hi.1] at hi
          exact Option.some.inj hi.2
        obtain ⟨mm, hm⟩ := hx2 p.1 (by simpa using h2.1)
        obtain ⟨p1, p2⟩ := p
        simp only at h3 hm ⊢
        subst h3; subst hm
        simp [Instr.sameBits]
      simp [Instr.keyThatStays, this]

/-- Keys, as they are read. -/
theorem keyOK_kv {kk : KeyK} {a : AV} {v : Value} {R : Nat → Nat} (h : keyOK kk a = true) (hv : VR w R a v) : KV kk v := by
  unfold keyOK at h
  split at h
  · rename_i k k' n
    have : k = k' := by simpa [kEq] using h
    subst this
    exact ⟨n, VR.inv_int hv⟩
  · exact ⟨_, VR.inv_str hv⟩
  · exact ⟨_, VR.inv_bool hv⟩
  · rename_i n cs
    simp only [Bool.and_eq_true, beq_iff_eq] at h
    obtain ⟨vs, rfl, hs, hr, _⟩ := VR.inv_agg hv
    refine ⟨vs, rfl, by omega, fun u hu => ?_⟩
    obtain ⟨i, hi⟩ := Array.mem_iff_getElem?.1 hu
    have hlt : i < cs.length := by have := (Array.getElem?_eq_some_iff.1 hi).1; omega
    have hc := List.getElem?_eq_getElem hlt
    have h8 : isU8 cs[i] = true := List.all_eq_true.1 h.2 _ (List.getElem_mem hlt)
    have hvr := hr i _ u hc hi
    generalize cs[i] = c at h8 hvr
    unfold isU8 at h8
    split at h8
    · exact ⟨_, VR.inv_int hvr⟩
    · cases h8
  · cases h

theorem keyEqs_u8 : ∀ (cs ds : List AV), cs.all isU8 = true → ds.all isU8 = true → (keyEqs cs ds = true ↔ cs = ds)
  | [], [], _, _ => by simp [keyEqs]
  | [], _ :: _, _, _ => by simp [keyEqs]
  | _ :: _, [], _, _ => by simp [keyEqs]
  | a :: cs, b :: ds, h1, h2 => by
    simp only [List.all_cons, Bool.and_eq_true] at h1 h2
    have ih := keyEqs_u8 cs ds h1.2 h2.2
    have ha := h1.1; have hb := h2.1
    unfold isU8 at ha hb
    split at ha <;> first | (cases ha; done) | skip
    split at hb <;> first | (cases hb; done) | skip
    simp [keyEqs, keyEq, ih]

theorem keyIs_iff {kk : KeyK} {a b : AV} {x y : Value} {R : Nat → Nat} (ha : keyOK kk a = true) (hb : keyOK kk b = true) (hx : VR w R a x) (hy : VR w R b y) : keyIs a b = true ↔ y = x := by
  cases kk with
  | int k =>
    cases a <;> first | (simp [keyOK] at ha; done) | skip
    cases b <;> first | (simp [keyOK] at hb; done) | skip
    rename_i k1 n1 k2 n2
    have e1 : k = k1 := by simpa [keyOK, kEq] using ha
    have e2 : k = k2 := by simpa [keyOK, kEq] using hb
    subst e1; subst e2
    rw [VR.inv_int hx, VR.inv_int hy]
    show ((n1 == n2) && true) = true ↔ _
    rw [Bool.and_true, beq_iff_eq]
    exact ⟨fun h => by rw [h], fun h => by injection h with _ h; exact h.symm⟩
  | str =>
    cases a <;> first | (simp [keyOK] at ha; done) | skip
    cases b <;> first | (simp [keyOK] at hb; done) | skip
    rename_i s1 s2
    rw [VR.inv_str hx, VR.inv_str hy]
    show ((s1 == s2) && true) = true ↔ _
    rw [Bool.and_true, beq_iff_eq]
    refine ⟨fun h => by rw [h], fun h => ?_⟩
    injection h with h
    have : s2.toArray = s1.toArray := congrArg ByteArray.data h
    have := congrArg Array.toList this
    simpa using this.symm
  | bool =>
    cases a <;> first | (simp [keyOK] at ha; done) | skip
    cases b <;> first | (simp [keyOK] at hb; done) | skip
    rename_i s1 s2
    rw [VR.inv_bool hx, VR.inv_bool hy]
    show ((s1 == s2) && true) = true ↔ _
    rw [Bool.and_true, beq_iff_eq]
    exact ⟨fun h => by rw [h], fun h => by injection h with h; exact h.symm⟩
  | bytes n =>
    cases a <;> first | (simp [keyOK] at ha; done) | skip
    cases b <;> first | (simp [keyOK] at hb; done) | skip
    rename_i cs ds
    simp only [keyOK, Bool.and_eq_true, beq_iff_eq] at ha hb
    show keyEqs cs ds = true ↔ _
    rw [keyEqs_u8 cs ds ha.2 hb.2]
    obtain ⟨vs, rfl, h1, h2, _⟩ := VR.inv_agg hx
    obtain ⟨us, rfl, k1, k2, _⟩ := VR.inv_agg hy
    constructor
    · intro e
      subst e
      congr 1
      apply Array.ext (by omega)
      intro j q1 q2
      have hlt : j < cs.length := by omega
      have hc := List.getElem?_eq_getElem hlt
      have r1 := h2 j _ vs[j] hc (Array.getElem?_eq_getElem q2)
      have r2 := k2 j _ us[j] hc (Array.getElem?_eq_getElem q1)
      have h8 : isU8 cs[j] = true := List.all_eq_true.1 ha.2 _ (List.getElem_mem hlt)
      generalize cs[j] = c at h8 r1 r2
      unfold isU8 at h8
      split at h8
      · rw [VR.inv_int r1, VR.inv_int r2]
      · cases h8
    · intro e
      injection e with e
      subst e
      apply List.ext_getElem (by omega)
      intro j q1 q2
      have r1 := h2 j _ us[j] (List.getElem?_eq_getElem q1) (Array.getElem?_eq_getElem (by omega))
      have r2 := k2 j _ us[j] (List.getElem?_eq_getElem q2) (Array.getElem?_eq_getElem (by omega))
      have h8 : isU8 cs[j] = true := List.all_eq_true.1 ha.2 _ (List.getElem_mem q1)
      have h9 : isU8 ds[j] = true := List.all_eq_true.1 hb.2 _ (List.getElem_mem q2)
      generalize cs[j] = c at h8 r1 ⊢
      generalize ds[j] = d at h9 r2 ⊢
      unfold isU8 at h8 h9
      split at h8 <;> first | (cases h8; done) | skip
      split at h9 <;> first | (cases h9; done) | skip
      have := VR.inv_int r1
      rw [VR.inv_int r2] at this
      injection this with _ this
      rw [this]
end
end Go.AB
