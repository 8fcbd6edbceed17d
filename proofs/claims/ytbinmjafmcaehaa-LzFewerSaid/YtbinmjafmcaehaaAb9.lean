/- The abstract layer, part 9: elements' addresses, slices, lengths, least and greatest, structs. -/
import Derived.Test.YtbinmjafmcaehaaAb8
namespace Go.AB
open Go

section
variable {P : Program} {G : Gh} {n : Nat} {σ : St} {a : Act} {w : World}

theorem fit_of {k : Int} {m sz len : Nat} (h0 : 0 ≤ k) (h1 : k < m) (hl : len = m * sz) : k.toNat * sz + sz ≤ len := by
  have : k.toNat + 1 ≤ m := by omega
  calc k.toNat * sz + sz = (k.toNat + 1) * sz := by rw [Nat.add_mul, Nat.one_mul]
    _ ≤ m * sz := Nat.mul_le_mul_right _ this
    _ = len := hl.symm

theorem pv_indexAddr (h : Inv G n σ a w) {op : Op} {ty : TypeId} {z : List AV} {x i : IX} (hc : chkOp P op ty (.indexAddr z x i) = true) {av : AV} (hv : POK (pv (.indexAddr z x i) (xg true σ) σ) av) :
    ∃ v, runs P a op ty w v ∧ NR G w σ a av v := by
  cases op <;> first | (simp [chkOp] at hc; done) | skip
  rename_i t y j
  simp only [chkOp, Bool.and_eq_true] at hc
  obtain ⟨⟨hy, hj⟩, hc⟩ := hc
  split at hc <;> try (cases hc; done)
  rename_i e ht
  have ht := elemOfSl_eq ht
  have hb := BR.of_inv h hy
  have hbi := BR.of_inv h hj
  have hv' : POK (indexAddrV z (xg true σ x) (xg true σ i)) av := hv
  generalize xg true σ x = xv at hb hv'
  generalize xg true σ i = iv at hbi hv'
  have hrun : ∀ b o l c k q, a.eval y = .slice (some ⟨b, o, none⟩) l c → a.eval j = .int k q → 0 ≤ q → q < l → runs P a (.indexAddr t y j) ty w (.pointer (some ⟨b, o + q.toNat * z.length, none⟩)) := by
    intro b o l c k q e1 e2 h0 h1 _ _ _ _
    simp [execOp, e1, e2, Instr.indexAt, asIntOf, run_underlying ht, h0, h1, run_sizeOf hc, add_eq]
  unfold indexAddrV at hv'
  split at hv'
  · rename_i ow s m cs k q
    cases hs : s == z.length with
    | false => rw [hs] at hv'; exact hv'.no.elim
    | true =>
      rw [hs] at hv'
      have hs := beq_iff_eq.1 hs
      obtain ⟨rfl, h0, h1⟩ := hv'.prt
      have e2 : a.eval j = .int k q := VR.inv_int hbi
      rcases VR.inv_sl hb with ⟨_, rfl, _⟩ | ⟨b, o, cap, e1, hl, hR, hcap, hat⟩
      · simp at h1; omega
      · rw [hs] at hl
        have hfit := fit_of h0 h1 hl
        have hlen : (views (AB.sub cs (q.toNat * z.length) z.length)).length = z.length := by simp only [AB.views, List.length_map, len_sub hfit]
        have hpad : pad z (views (AB.sub cs (q.toNat * z.length) z.length)) = views (AB.sub cs (q.toNat * z.length) z.length) := by
          unfold pad
          rw [hlen, beq_self_eq_true]; rfl
        have hat' := (hat.sub (q.toNat * z.length) z.length).views
        obtain ⟨u, u1, u2, u3⟩ := hat'
        rw [hpad]
        refine ⟨_, hrun b o m cap k q e1 e2 h0 h1, NR.mk rfl (.sp _ b (o + q.toNat * z.length) u u3 ?_ u1 u2) rfl⟩
        rw [hlen]
        omega
  · rename_i b o m c k q
    obtain ⟨rfl, h0, h1⟩ := hv'.prt
    exact ⟨_, hrun b o m c k q (VR.inv_arr hb) (VR.inv_int hbi) h0 h1, NR.mk rfl (.ref _ _) rfl⟩
  · exact hv'.no.elim

theorem pv_aindexAddr (h : Inv G n σ a w) {op : Op} {ty : TypeId} {sz len : Nat} {x i : IX} (hc : chkOp P op ty (.aindexAddr sz len x i) = true) {av : AV} (hv : POK (pv (.aindexAddr sz len x i) (xg true σ) σ) av) :
    ∃ v, runs P a op ty w v ∧ NR G w σ a av v := by
  cases op <;> first | (simp [chkOp] at hc; done) | skip
  rename_i t y j
  simp only [chkOp, Bool.and_eq_true] at hc
  obtain ⟨⟨hy, hj⟩, hc⟩ := hc
  split at hc <;> try (cases hc; done)
  rename_i l e ht
  simp only [Bool.and_eq_true, beq_iff_eq] at hc
  obtain ⟨rfl, hs⟩ := hc
  have hb := BR.of_inv h hy
  have hbi := BR.of_inv h hj
  have hv' : POK (aindexAddrV sz l x (xg true σ x) (xg true σ i)) av := hv
  generalize hxv : xg true σ x = xv at hb hv'
  generalize xg true σ i = iv at hbi hv'
  have hrun : ∀ b o k q, a.eval y = .pointer (some ⟨b, o, none⟩) → a.eval j = .int k q → 0 ≤ q → q < l → runs P a (.indexAddr t y j) ty w (.pointer (some ⟨b, o + q.toNat * sz, none⟩)) := by
    intro b o k q e1 e2 h0 h1 _ _ _ _
    simp [execOp, e1, e2, Instr.indexAt, asIntOf, run_underlying ht, Instr.sureAddr, h0, h1, run_sizeOf hs, add_eq]
  unfold aindexAddrV at hv'
  split at hv'
  · rename_i d o k q
    obtain ⟨rfl, h0, h1⟩ := hv'.prt
    obtain ⟨b, e1, h2⟩ := hb
    exact ⟨_, hrun b o k q e1 (VR.inv_int hbi) h0 h1, b, rfl, h2⟩
  · rename_i cs k q
    by_cases hfit : l * sz ≤ cs.length
    · rw [decide_eq_true hfit] at hv'
      obtain ⟨rfl, h0, h1⟩ := hv'.prt
      obtain ⟨b, o, e, hR, u, u1, u2, u3⟩ := VR.inv_sp hb
      have hf := fit_of (sz := sz) h0 h1 rfl
      refine ⟨_, hrun b o k q e (VR.inv_int hbi) h0 h1, NR.mk rfl (.sp _ b (o + q.toNat * sz) (fun j => u (q.toNat * sz + j)) (u3.drop _) (by simp; omega) (fun j c hj => ?_) (fun j c hj => ?_)) rfl⟩
      · rw [List.getElem?_drop] at hj
        rw [Nat.add_assoc]; exact u1 _ c hj
      · rw [List.getElem?_drop] at hj
        exact u2 _ c hj
    · rw [decide_eq_false hfit] at hv'; exact hv'.no.elim
  · rename_i b o k q
    obtain ⟨rfl, h0, h1⟩ := hv'.prt
    exact ⟨_, hrun b o k q (VR.inv_ref hb) (VR.inv_int hbi) h0 h1, NR.mk rfl (.ref _ _) rfl⟩
  · rename_i cs k q
    unfold locA at hv'
    split at hv'
    · rename_i j'
      obtain ⟨rfl, h0, h1⟩ := hv'.prt
      obtain ⟨i', b, c, t', e1, hl, htm, hvv, _⟩ := hb
      injection e1 with e1
      subst e1
      exact ⟨_, hrun b 0 k q hvv (VR.inv_int hbi) h0 h1, b, by rw [Nat.zero_add], fun _ _ => by rw [htm, hvv]⟩
    · exact hv'.no.elim
  · exact hv'.no.elim

theorem run_bound {lo : Option Operand} {li : Option IX} (h : Inv G n σ a w) (hc : chkO lo li = true) {d l : Int} (hl : ixV (xg true σ) li d = some l) :
    (lo = none ∧ l = d) ∨ (∃ k o, lo = some o ∧ a.eval o = .int k l) := by
  unfold chkO at hc
  split at hc
  · injection hl with hl; exact .inl ⟨rfl, hl.symm⟩
  · rename_i o x
    have hb := BR.of_inv h hc
    unfold ixV at hl
    simp only at hl
    split at hl
    · rename_i k q hq
      injection hl with hl; subst hl
      rw [hq] at hb
      exact .inr ⟨k, o, rfl, VR.inv_int hb⟩
    · cases hl
  · cases hc

theorem run_sliceBounds (isSl : Bool) (len cap : Nat) {lo hi : Option Value} {l hh : Int} (hlo : (lo = none ∧ l = 0) ∨ ∃ k, lo = some (.int k l)) (hhi : (hi = none ∧ hh = len) ∨ ∃ k, hi = some (.int k hh))
    (h0 : 0 ≤ l) (h1 : l ≤ hh) (h2 : hh ≤ cap) : (Instr.sliceBounds isSl len cap lo hi none).run P w = .ok (l.toNat, hh.toNat, cap) w := by
  have hb : ∀ (k : IntKind) (q : Int) (y : Nat) (c : BoundsCode), 0 ≤ q → q ≤ y → (Instr.sliceBound (.int k q) y c).run P w = .ok q.toNat w := by
    intro k q y c hq hy
    simp [Instr.sliceBound, asIntOf, hq, hy]
  rcases hhi with ⟨rfl, rfl⟩ | ⟨k, rfl⟩
  · rcases hlo with ⟨rfl, rfl⟩ | ⟨k', rfl⟩
    · simp [Instr.sliceBounds]
    · simp [Instr.sliceBounds, hb k' l len _ h0 h1]
  · have := hb k hh cap (if isSl then .sliceAcap else .sliceAlen) (by omega) h2
    rcases hlo with ⟨rfl, rfl⟩ | ⟨k', rfl⟩
    · simp [Instr.sliceBounds, this]
    · have h3 := hb k' l hh.toNat .sliceB h0 (by omega)
      simp [Instr.sliceBounds, this, h3]

theorem map_bound {lo : Option Operand} {l d : Int} (h : (lo = none ∧ l = d) ∨ (∃ k o, lo = some o ∧ a.eval o = .int k l)) : (lo.map a.eval = none ∧ l = d) ∨ ∃ k, lo.map a.eval = some (.int k l) := by
  rcases h with ⟨rfl, h⟩ | ⟨k, o, rfl, h⟩
  · exact .inl ⟨rfl, h⟩
  · exact .inr ⟨k, by simp [h]⟩

theorem pv_slice (h : Inv G n σ a w) {op : Op} {ty : TypeId} {sz : Nat} {x : IX} {lo hi mx : Option IX} (hc : chkOp P op ty (.slice sz x lo hi mx) = true) {av : AV} (hv : POK (pv (.slice sz x lo hi mx) (xg true σ) σ) av) :
    ∃ v, runs P a op ty w v ∧ NR G w σ a av v := by
  cases op <;> first | (simp [chkOp] at hc; done) | skip
  rename_i t y l' h' m'
  simp only [chkOp, Bool.and_eq_true] at hc
  obtain ⟨⟨⟨⟨hy, hlo⟩, hhi⟩, hmx⟩, hc⟩ := hc
  split at hc <;> try (cases hc; done)
  rename_i e ht
  have ht := elemOfSl_eq ht
  cases mx with
  | some m => exact (POK.no hv).elim
  | none =>
    have hm' : m' = none := by
      cases m' with
      | none => rfl
      | some _ => simp [chkO] at hmx
    subst hm'
    have hb := BR.of_inv h hy
    have hv' : POK (sliceV sz (xg true σ) lo hi (xg true σ x)) av := hv
    generalize xg true σ x = xv at hb hv'
    unfold sliceV at hv'
    split at hv'
    · rename_i ow s m cs
      cases hs : s == sz with
      | false => rw [hs] at hv'; exact hv'.no.elim
      | true =>
        rw [hs] at hv'
        obtain rfl := beq_iff_eq.1 hs
        have hv'' : POK (sliceSl s m cs (ixV (xg true σ) lo 0) (ixV (xg true σ) hi m)) av := hv'
        unfold sliceSl at hv''
        split at hv''
        · rename_i l hh hl hhh
          cases h1s : Nat.ble 1 s with
          | false => rw [h1s] at hv''; exact hv''.no.elim
          | true =>
          rw [h1s] at hv''
          have hs1 : 1 ≤ s := Nat.le_of_ble_eq_true h1s
          obtain ⟨rfl, h0, h1, h2⟩ := hv''.prt
          have bl := map_bound (run_bound h hlo hl)
          have bh := map_bound (run_bound h hhi hhh)
          rcases VR.inv_sl hb with ⟨e1, rfl, rfl⟩ | ⟨b, o, cap, e1, hlen, hR, hcap, hat⟩
          · have hl0 : l = 0 := by omega
            have hh0 : hh = 0 := by omega
            subst hl0; subst hh0
            refine ⟨.slice none 0 0, fun _ _ _ _ => ?_, NR.mk rfl ?_ rfl⟩
            · have := run_sliceBounds (P := P) (w := w) true 0 0 bl bh (by omega) (by omega) (by omega)
              simp [execOp, e1, Instr.sliceAt, run_underlying ht, Instr.slice, this, run_sizeOf hc]
            · have : AB.sub ([] : List AV) ((0 : Int).toNat * s) ((0 - 0 : Int).toNat * s) = [] := by simp [AB.sub]
              rw [this]
              show VR _ _ (.sl false s (0 / s) []) _
              rw [Nat.zero_div]; exact .slnil _ _
          · have hrun := run_sliceBounds (P := P) (w := w) true m cap bl bh h0 h1 (by omega)
            have hfit : l.toNat * s + (hh - l).toNat * s ≤ cs.length := by
              rw [hlen, ← Nat.add_mul]
              exact Nat.mul_le_mul_right _ (by omega)
            have hdiv : (AB.sub cs (l.toNat * s) ((hh - l).toNat * s)).length / s = (hh - l).toNat := by
              rw [len_sub hfit]; exact Nat.mul_div_cancel _ hs1
            rw [hdiv]
            by_cases hcl : cap = l.toNat
            · subst hcl
              have hz : (hh - l).toNat = 0 := by omega
              refine ⟨.slice (some ⟨b, o, none⟩) (hh - l).toNat (l.toNat - l.toNat), fun _ _ _ _ => ?_, NR.mk rfl ?_ rfl⟩
              · have e3 : hh.toNat - l.toNat = (hh - l).toNat := by omega
                simp [execOp, e1, Instr.sliceAt, run_underlying ht, Instr.slice, hrun, run_sizeOf hc, e3]
              · rw [hz]
                have : AB.sub cs (l.toNat * s) (0 * s) = [] := by simp [AB.sub]
                rw [this]
                exact .sl false s 0 [] b o _ (fun _ => undef) Fl.nil (by simp) (by simp; omega) (Nat.zero_le _) (fun j c hj => by simp at hj) (fun j c hj => by simp at hj)
            · refine ⟨.slice (some ⟨b, o + l.toNat * s, none⟩) (hh - l).toNat (cap - l.toNat), fun _ _ _ _ => ?_, NR.mk rfl ?_ rfl⟩
              · have e3 : hh.toNat - l.toNat = (hh - l).toNat := by omega
                simp [execOp, e1, Instr.sliceAt, run_underlying ht, Instr.slice, hrun, run_sizeOf hc, hcl, e3, add_eq]
              · obtain ⟨u, u1, u2, u3⟩ := hat.sub (l.toNat * s) ((hh - l).toNat * s)
                exact .sl false s _ _ b _ _ u u3 (len_sub hfit) (by rw [len_sub hfit]; omega) (by omega) u1 u2
        · exact hv''.no.elim
    · rename_i b o m cap
      have hv'' : POK (sliceArr sz b o cap (ixV (xg true σ) lo 0) (ixV (xg true σ) hi m)) av := hv'
      unfold sliceArr at hv''
      split at hv''
      · rename_i l hh hl hhh
        obtain ⟨rfl, h0, h1, h2, h3⟩ := hv''.prt
        have bl := map_bound (run_bound h hlo hl)
        have bh := map_bound (run_bound h hhi hhh)
        have e1 := VR.inv_arr hb
        have hrun := run_sliceBounds (P := P) (w := w) true m cap bl bh h0 h1 h2
        have hcl : ¬ (cap = l.toNat) := by omega
        refine ⟨.slice (some ⟨b, o + l.toNat * sz, none⟩) (hh - l).toNat (cap - l).toNat, fun _ _ _ _ => ?_, NR.mk rfl (.arr _ _ _ _) rfl⟩
        have e3 : hh.toNat - l.toNat = (hh - l).toNat := by omega
        have e4 : cap - l.toNat = ((cap : Int) - l).toNat := by omega
        simp [execOp, e1, Instr.sliceAt, run_underlying ht, Instr.slice, hrun, run_sizeOf hc, hcl, e3, e4, add_eq]
      · exact hv''.no.elim
    · exact hv'.no.elim
theorem pv_sslice (h : Inv G n σ a w) {op : Op} {ty : TypeId} {x : IX} {lo hi : Option IX} (hc : chkOp P op ty (.sslice x lo hi) = true) {av : AV} (hv : POK (pv (.sslice x lo hi) (xg true σ) σ) av) :
    ∃ v, runs P a op ty w v ∧ NR G w σ a av v := by
  cases op <;> first | (simp [chkOp] at hc; done) | skip
  rename_i t y l' h' m'
  cases m' with
  | some _ => simp [chkOp] at hc
  | none =>
    simp only [chkOp, Bool.and_eq_true] at hc
    obtain ⟨⟨⟨hy, hlo⟩, hhi⟩, ht⟩ := hc
    have ht := strT_eq ht
    have hb := BR.of_inv h hy
    have hv' : POK (sliceStrV (xg true σ) lo hi (xg true σ x)) av := hv
    generalize xg true σ x = xv at hb hv'
    unfold sliceStrV at hv'
    split at hv'
    · rename_i s
      have hv'' : POK (sliceStr s (ixV (xg true σ) lo 0) (ixV (xg true σ) hi s.length)) av := hv'
      unfold sliceStr at hv''
      split at hv''
      · rename_i l hh hl hhh
        obtain ⟨rfl, h0, h1, h2⟩ := hv''.prt
        have bl := map_bound (run_bound h hlo hl)
        have bh := map_bound (run_bound h hhi hhh)
        have e1 := VR.inv_str hb
        have hrun := run_sliceBounds (P := P) (w := w) false s.length s.length bl bh h0 h1 h2
        have hsz : (ByteArray.mk s.toArray).size = s.length := by simp [ByteArray.size]
        refine ⟨.string ⟨((s.drop l.toNat).take (hh - l).toNat).toArray⟩, fun _ _ _ _ => ?_, NR.mk rfl (.str _) rfl⟩
        have hex : (ByteArray.mk s.toArray).extract l.toNat hh.toNat = ⟨((s.drop l.toNat).take (hh - l).toNat).toArray⟩ := by
          apply ByteArray.ext
          rw [ByteArray.data_extract]
          apply Array.ext'
          simp only [Array.toList_extract, List.extract_eq_take_drop]
          congr 1
          omega
        simp [execOp, e1, Instr.sliceAt, run_underlying ht, Instr.slice, hsz, hrun, hex]
      · exact hv''.no.elim
    · exact hv'.no.elim

theorem asB_eq {b : Builtin} {c : Call} {ys : List Operand} {ts : List TypeId} (h : asB b c = some (ys, ts)) : c = { callee := .builtin b, args := ys.toArray, argTypes := ts.toArray } := by
  unfold asB at h
  split at h
  · rename_i b' hb
    split at h
    · rename_i hbb
      injection h with h; injection h with h1 h2
      subst hbb; subst h1; subst h2
      cases c; simp at hb; simp [hb]
    · cases h
  · cases h

theorem pv_alen {op : Op} {ty : TypeId} {m : Nat} (hc : chkOp P op ty (.alen m) = true) {av : AV} (hv : POK (pv (.alen m) (xg true σ) σ) av) :
    ∃ v, runs P a op ty w v ∧ NR G w σ a av v := by
  cases op <;> first | (simp [chkOp] at hc; done) | skip
  rename_i c
  have hav : av = .int .i64 m := POK.tot hv
  subst hav
  simp only [chkOp] at hc
  split at hc <;> try (cases hc; done)
  rename_i y ys t ts hb
  have hce := asB_eq hb
  subst hce
  unfold arrLen at hc
  split at hc <;> try (cases hc; done)
  rename_i m' e ht
  obtain rfl := beq_iff_eq.1 hc
  exact ⟨.int .i64 m, fun _ _ _ _ => by simp [execOp, resolve, invoke, builtin, Builtin.len_, run_underlying ht, goInt], NR.mk rfl (.int _ _) rfl⟩

theorem pv_len (h : Inv G n σ a w) {op : Op} {ty : TypeId} {cls : Nat} {x : IX} (hc : chkOp P op ty (.len cls x) = true) {av : AV} (hv : POK (pv (.len cls x) (xg true σ) σ) av) :
    ∃ v, runs P a op ty w v ∧ NR G w σ a av v := by
  cases op <;> first | (simp [chkOp] at hc; done) | skip
  rename_i c
  simp only [chkOp] at hc
  split at hc <;> try (cases hc; done)
  rename_i y ys t ts hb
  have hce := asB_eq hb
  subst hce
  rw [Bool.and_eq_true] at hc
  obtain ⟨hy, hlt⟩ := hc
  have hb := BR.of_inv h hy
  have hv' : POK (lenV σ.s cls (xg true σ x)) av := hv
  generalize xg true σ x = xv at hb hv'
  have fin : ∀ (m : Nat), av = .int .i64 m → (∀ w', w' = w → (Builtin.len_ (t :: ts).toArray ty ((y :: ys).toArray.map a.eval)).run P w' = .ok (.int .i64 m) w') → ∃ v, runs P a (.call { callee := .builtin .len, args := (y :: ys).toArray, argTypes := (t :: ts).toArray }) ty w v ∧ NR G w σ a av v := by
    intro m hm hr
    subst hm
    exact ⟨.int .i64 m, fun _ _ _ _ => by simp [execOp, resolve, invoke, builtin] at hr ⊢; simp [hr], NR.mk rfl (.int _ _) rfl⟩
  unfold lenT at hlt
  split at hlt <;> try (cases hlt; done)
  all_goals
    rename_i ht
    obtain rfl := beq_iff_eq.1 hlt
    unfold lenV at hv'
    split at hv' <;> rename_i hcl <;> try (cases hcl; done)
  · rename_i ow s m cs
    refine fin m hv'.tot fun w' _ => ?_
    rcases VR.inv_sl hb with ⟨e1, rfl, _⟩ | ⟨b, o, cap, e1, _⟩
    · simp [Builtin.len_, run_underlying ht, goInt, e1]
    · simp [Builtin.len_, run_underlying ht, goInt, e1]
  · rename_i b o m c
    refine fin m hv'.tot fun w' _ => ?_
    simp [Builtin.len_, run_underlying ht, goInt, VR.inv_arr hb]
  · exact hv'.no.elim
  · rename_i s
    refine fin s.length hv'.tot fun w' _ => ?_
    have e1 := VR.inv_str hb
    have hsz : (ByteArray.mk s.toArray).size = s.length := by simp [ByteArray.size]
    simp only [List.map_toArray, List.map_cons, e1]
    simp [Builtin.len_, run_underlying ht, goInt, hsz]
  · exact hv'.no.elim
  · refine fin 0 hv'.tot fun w' _ => ?_
    simp [Builtin.len_, run_underlying ht, goInt, VR.inv_nilm hb]
  · rename_i b
    unfold lenMap at hv'
    split at hv'
    · rename_i es hs
      refine fin es.length hv'.tot fun w' hw' => ?_
      subst hw'
      obtain ⟨_, _, ents, clock, hh, hsz, _⟩ := h.store b _ hs
      have hg : (getObj b).run P w' = .ok (.map ents clock) w' := by simp [getObj, Sem.run, hh]
      simp [Builtin.len_, run_underlying ht, goInt, VR.inv_mp hb, hg, hsz]
    · exact hv'.no.elim
  · exact hv'.no.elim

theorem minL_eq (mx : Bool) (k : IntKind) (h : Inv G n σ a w) : ∀ (xs : List IX) (ys : List Operand), chkXs ys xs = true → ∀ (m r : Int), minL mx m (xs.map (xg true σ)) = some r →
    ((ys.map a.eval).foldlM (if mx then Builtin.max2 else Builtin.min2) (.int k m)).run P w = .ok (.int k r) w := by
  intro xs
  induction xs with
  | nil =>
    intro ys hc m r hr
    cases ys with
    | nil => simp [minL] at hr; subst hr; rfl
    | cons _ _ => simp [chkXs] at hc
  | cons x xs ih =>
    intro ys hc m r hr
    cases ys with
    | nil => simp [chkXs] at hc
    | cons y ys =>
      simp only [chkXs, Bool.and_eq_true] at hc
      have hb := BR.of_inv h hc.1
      simp only [List.map_cons] at hr ⊢
      generalize xg true σ x = xv at hb hr
      cases xv <;> simp only [minL] at hr <;> try (cases hr; done)
      rename_i k' q
      have e := VR.inv_int hb
      have := ih ys hc.2 _ r hr
      rw [List.foldlM_cons]
      simp only [Sem.run_bind, e]
      cases mx with
      | true =>
        have : (Builtin.max2 (.int k m) (.int k' q)).run P w = .ok (.int k (max m q)) w := by
          simp only [Builtin.max2, Sem.run_pure]
          congr 2
          omega
        simp_all
      | false =>
        have : (Builtin.min2 (.int k m) (.int k' q)).run P w = .ok (.int k (min m q)) w := by
          simp only [Builtin.min2, Sem.run_pure]
          congr 2
          omega
        simp_all

theorem pv_extract (h : Inv G n σ a w) {op : Op} {ty : TypeId} {k : Nat} {x : IX} (hc : chkOp P op ty (.extract x k) = true) {av : AV} (hv : POK (pv (.extract x k) (xg true σ) σ) av) :
    ∃ v, runs P a op ty w v ∧ NR G w σ a av v := by
  cases op <;> first | (simp [chkOp] at hc; done) | skip
  rename_i y j
  simp only [chkOp, Bool.and_eq_true, beq_iff_eq] at hc
  obtain ⟨hy, rfl⟩ := hc
  have hb := BR.of_inv h hy
  have hv' : POK (extractV k (xg true σ x)) av := hv
  generalize xg true σ x = xv at hb hv'
  unfold extractV at hv'
  split at hv'
  · rename_i vs
    obtain ⟨us, e1, hl, hr⟩ := VR.inv_tup hb
    cases hk : vs[k]? with
    | none => rw [hk] at hv'; exact hv'.no.elim
    | some c =>
      rw [hk] at hv'
      obtain ⟨rfl, hi⟩ := ckV_ok hv'
      have hlt : k < us.size := by rw [hl]; exact (List.getElem?_eq_some_iff.1 hk).1
      have hu := Array.getElem?_eq_getElem hlt
      exact ⟨us[k], fun _ _ _ _ => by simp [execOp, e1, Instr.extract, hu], NR.mk hi (hr k c _ hk hu).view (view_view _)⟩
  · exact hv'.no.elim
end
end Go.AB
