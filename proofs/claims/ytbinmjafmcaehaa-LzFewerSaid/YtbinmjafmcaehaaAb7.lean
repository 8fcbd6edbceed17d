/- The abstract layer, part 7: operations that only compute are told rightly, one by one. -/
import Derived.Test.YtbinmjafmcaehaaAb6
import Derived.Laws.Concat
namespace Go.AB
open Go

def POK (r : PR) (av : AV) : Prop := r = .tot av ∨ ∃ c, r = .prt c av ∧ c

theorem POK.tot {a av : AV} (h : POK (.tot a) av) : av = a := by
  rcases h with h | ⟨c, h, _⟩
  · injection h with h; exact h.symm
  · cases h
theorem POK.prt {c : Prop} {a av : AV} (h : POK (.prt c a) av) : av = a ∧ c := by
  rcases h with h | ⟨c', h, hc⟩
  · cases h
  · injection h with h1 h2; exact ⟨h2.symm, h1 ▸ hc⟩
theorem POK.no {av : AV} (h : POK .no av) : False := by
  rcases h with h | ⟨c', h, hc⟩ <;> cases h

theorem isV_view {a : AV} (h : isV a = true) : isV (view a) = true := by cases a <;> simp_all [isV, view]
theorem view_view (a : AV) : view (view a) = view a := by cases a <;> rfl

section
variable {P : Program} {G : Gh} {n : Nat} {σ : St} {a : Act} {w : World}

theorem NR.view {av : AV} {v : Value} (hi : isV av = true) (h : VR w G.R av v) : NR G w σ a (view av) v := by
  have : isV (AB.view av) = true ∧ VR w G.R (AB.view av) v ∧ AB.view (AB.view av) = AB.view av := ⟨isV_view hi, h.view, view_view _⟩
  cases av <;> first | exact this | (simp [isV] at hi)

theorem NR.mk {av : AV} {v : Value} (hi : isV av = true) (h : VR w G.R av v) (hv : AB.view av = av) : NR G w σ a av v := hv ▸ NR.view hi h

theorem VR.inv_bool {R : Nat → Nat} {b : Bool} {v : Value} (h : VR w R (.bool b) v) : v = .bool b := by cases h; rfl
theorem VR.inv_int {R : Nat → Nat} {k : IntKind} {m : Int} {v : Value} (h : VR w R (.int k m) v) : v = .int k m := by cases h; rfl
theorem VR.inv_str {R : Nat → Nat} {s : List UInt8} {v : Value} (h : VR w R (.str s) v) : v = .string ⟨s.toArray⟩ := by cases h; rfl
theorem VR.inv_nilp {R : Nat → Nat} {v : Value} (h : VR w R .nilp v) : v = .pointer none := by cases h; rfl
theorem VR.inv_ref {R : Nat → Nat} {b o : Nat} {v : Value} (h : VR w R (.ref b o) v) : v = .pointer (some ⟨b, o, none⟩) := by cases h; rfl
theorem VR.inv_arr {R : Nat → Nat} {b o l c : Nat} {v : Value} (h : VR w R (.arr b o l c) v) : v = .slice (some ⟨b, o, none⟩) l c := by cases h; rfl
theorem VR.inv_mp {R : Nat → Nat} {b : Nat} {v : Value} (h : VR w R (.mp b) v) : v = .map (some b) := by cases h; rfl
theorem VR.inv_nilm {R : Nat → Nat} {v : Value} (h : VR w R .nilm v) : v = .map none := by cases h; rfl
theorem VR.inv_agg {R : Nat → Nat} {cs : List AV} {v : Value} (h : VR w R (.agg cs) v) : ∃ vs : Array Value, v = .agg vs ∧ vs.size = cs.length ∧ (∀ (j : Nat) (c : AV) (u : Value), cs[j]? = some c → vs[j]? = some u → VR w R c u) ∧ Fl cs := by
  cases h with | agg _ vs hf hl hr => exact ⟨vs, rfl, hl, hr, hf⟩
theorem VR.inv_tup {R : Nat → Nat} {cs : List AV} {v : Value} (h : VR w R (.tup cs) v) : ∃ vs : Array Value, v = .tuple vs ∧ vs.size = cs.length ∧ ∀ (j : Nat) (c : AV) (u : Value), cs[j]? = some c → vs[j]? = some u → VR w R c u := by
  cases h with | tup _ vs hl hr => exact ⟨vs, rfl, hl, hr⟩
/-- Cells at a place, read as so many values. -/
def At (w : World) (R : Nat → Nat) (b off : Nat) (cs : List AV) : Prop := ∃ u : Nat → Value, (∀ (j : Nat) (c : AV), cs[j]? = some c → w.cell? ⟨b, off + j, none⟩ = some (u j)) ∧ (∀ (j : Nat) (c : AV), cs[j]? = some c → VR w R c (u j)) ∧ Fl cs
theorem VR.inv_sp {R : Nat → Nat} {cs : List AV} {v : Value} (h : VR w R (.sp cs) v) : ∃ b off, v = .pointer (some ⟨b, off, none⟩) ∧ off + cs.length ≤ R b ∧ At w R b off cs := by
  cases h with | sp _ b off u hf hR hc hr => exact ⟨b, off, rfl, hR, u, hc, hr, hf⟩
theorem VR.inv_sl {R : Nat → Nat} {own : Bool} {sz m : Nat} {cs : List AV} {v : Value} (h : VR w R (.sl own sz m cs) v) :
    (v = .slice none 0 0 ∧ m = 0 ∧ cs = []) ∨ ∃ b off cap, v = .slice (some ⟨b, off, none⟩) m cap ∧ cs.length = m * sz ∧ off + cs.length ≤ R b ∧ m ≤ cap ∧ At w R b off cs := by
  cases h with
  | slnil => exact .inl ⟨rfl, rfl, rfl⟩
  | sl _ _ _ _ b off cap u hf hl hR hcap hc hr => exact .inr ⟨b, off, cap, rfl, hl, hR, hcap, u, hc, hr, hf⟩
theorem VR.inv_fn {R : Nat → Nat} {f : Nat} {x y : List AV} {v : Value} (h : VR w R (.fn f x y) v) : ∃ vf vc : Array Value, v = .func (.func f) vf vc ∧ vf.size = x.length ∧ (∀ (j : Nat) (c : AV) (u : Value), x[j]? = some c → vf[j]? = some u → VR w R c u) ∧
    vc.size = y.length ∧ (∀ (j : Nat) (c : AV) (u : Value), y[j]? = some c → vc[j]? = some u → VR w R c u) := by
  cases h with | fn _ _ _ vf vc h1 h2 h3 h4 => exact ⟨vf, vc, rfl, h1, h2, h3, h4⟩

def runs (P : Program) (a : Act) (op : Op) (ty : TypeId) (w : World) (v : Value) : Prop :=
  ∀ (d : Option Tmp) (pos : String) (after : Array Edge) (g : Option (Nat × Bool)), (execOp a.eval ⟨d, op, ty, pos, after, g⟩).run P w = .ok (.value v) w

theorem pv_mov (h : Inv G n σ a w) {op : Op} {ty : TypeId} {x : IX} (hc : chkOp P op ty (.mov false x) = true) {av : AV} (hv : POK (pv (.mov false x) (xg true σ) σ) av) :
    ∃ v, runs P a op ty w v ∧ NR G w σ a av v := by
  have key : ∀ y, chkX y x = true → NR G w σ a av (a.eval y) := fun y hy => by
    have hb := BR.of_inv h hy
    have hv' : POK (movV (xg true σ x)) av := hv
    unfold movV at hv'
    cases hi : isV (xg true σ x) with
    | false => rw [hi] at hv'; exact hv'.no.elim
    | true =>
      rw [hi] at hv'
      rw [hv'.tot]
      exact NR.view hi (hb.vr hi)
  cases op <;> first | (simp [chkOp] at hc; done) | skip
  · rename_i y
    exact ⟨a.eval y, fun _ _ _ _ => rfl, key y hc⟩
  · rename_i y
    exact ⟨a.eval y, fun _ _ _ _ => rfl, key y hc⟩

theorem bx_br {b : Bool} {x : IX} {v : Value} {p : Bool} (hb : b = true) (hx : XR G w σ a x (σ.x x) v) (h : bx b (σ.x x) = some p) : v = .bool p := by
  subst hb
  generalize σ.x x = av at *
  unfold bx at h
  split at h
  · injection h with h; subst h; cases hx; rfl
  · rename_i b' q
    cases b' with
    | false => simp at h
    | true =>
      simp at h; subst h
      have := hx rfl rfl
      cases this; rfl
  · cases h

theorem pv_pick (h : Inv G n σ a w) {op : Op} {ty : TypeId} {c x y : IX} (hc : chkOp P op ty (.pick c x y) = true) {av : AV} (hv : POK (pv (.pick c x y) (xg true σ) σ) av) :
    ∃ v, runs P a op ty w v ∧ NR G w σ a av v := by
  cases op <;> first | (simp [chkOp] at hc; done) | skip
  rename_i c' x' y'
  simp only [chkOp, Bool.and_eq_true] at hc
  have hbc := BR.of_inv h hc.1.1
  have hbx := XR.of_inv h hc.1.2
  have hby := XR.of_inv h hc.2
  have hv' : POK (pickV (σ.x x) (σ.x y) (xg true σ c)) av := hv
  generalize xg true σ c = cv at hbc hv'
  unfold pickV at hv'
  split at hv'
  · rename_i b
    have hcv : a.eval c' = .bool b := VR.inv_bool hbc
    unfold pickB at hv'
    split at hv'
    · rename_i p q hp hq
      rw [hv'.tot]
      refine ⟨.bool (bif b then p else q), fun _ _ _ _ => ?_, NR.mk rfl (.bool _) rfl⟩
      cases b with
      | true =>
        have := bx_br rfl hbx hp
        simp [execOp, hcv, asBool, this]
      | false =>
        have := bx_br rfl hby hq
        simp [execOp, hcv, asBool, this]
    · exact hv'.no.elim
  · exact hv'.no.elim

theorem pv_un (h : Inv G n σ a w) {op : Op} {ty : TypeId} {uo : UnOp} {x : IX} (hc : chkOp P op ty (.un uo x) = true) {av : AV} (hv : POK (pv (.un uo x) (xg true σ) σ) av) :
    ∃ v, runs P a op ty w v ∧ NR G w σ a av v := by
  cases op <;> first | (simp [chkOp] at hc; done) | skip
  rename_i u t y
  simp only [chkOp, Bool.and_eq_true, decide_eq_true_eq] at hc
  obtain ⟨rfl, hy⟩ := hc
  have hb := BR.of_inv h hy
  have hv' : POK (unV uo (xg true σ x)) av := hv
  generalize xg true σ x = xv at hb hv'
  unfold unV at hv'
  split at hv'
  · rename_i b
    have e : a.eval y = .bool b := VR.inv_bool hb
    rw [hv'.tot]
    exact ⟨.bool (!b), fun _ _ _ _ => by simp [execOp, e, Op.unary], NR.mk rfl (.bool _) rfl⟩
  · rename_i k m
    have e : a.eval y = .int k m := VR.inv_int hb
    rw [hv'.tot]
    exact ⟨.int k (k.wrap (0 - m)), fun _ _ _ _ => by simp [execOp, e, Op.unary, Op.intArith], NR.mk rfl (.int _ _) rfl⟩
  · exact hv'.no.elim

theorem pv_cvtInt (h : Inv G n σ a w) {op : Op} {ty : TypeId} {k : IntKind} {x : IX} (hc : chkOp P op ty (.cvtInt k x) = true) {av : AV} (hv : POK (pv (.cvtInt k x) (xg true σ) σ) av) :
    ∃ v, runs P a op ty w v ∧ NR G w σ a av v := by
  cases op <;> first | (simp [chkOp] at hc; done) | skip
  rename_i s t y
  simp only [chkOp, Bool.and_eq_true] at hc
  obtain ⟨hy, hc2⟩ := hc
  split at hc2
  · rename_i k1 k2 hs ht
    have := of_decide_eq_true hc2
    subst this
    have hb := BR.of_inv h hy
    have hv' : POK (cvtIntV k (xg true σ x)) av := hv
    generalize xg true σ x = xv at hb hv'
    unfold cvtIntV at hv'
    split at hv'
    · rename_i k' m
      have e : a.eval y = .int k' m := VR.inv_int hb
      rw [hv'.tot]
      exact ⟨.int k (k.wrap m), fun _ _ _ _ => by simp [execOp, e, convert, underlying, hs, ht, Conv.intToInt], NR.mk rfl (.int _ _) rfl⟩
    · exact hv'.no.elim
  · cases hc2

theorem pv_cvtId (h : Inv G n σ a w) {op : Op} {ty : TypeId} {x : IX} (hc : chkOp P op ty (.cvtId x) = true) {av : AV} (hv : POK (pv (.cvtId x) (xg true σ) σ) av) :
    ∃ v, runs P a op ty w v ∧ NR G w σ a av v := by
  cases op <;> first | (simp [chkOp] at hc; done) | skip
  rename_i s t y
  simp only [chkOp, Bool.and_eq_true] at hc
  obtain ⟨hy, hc2⟩ := hc
  split at hc2
  · rename_i hs ht
    have hb := BR.of_inv h hy
    have hv' : POK (cvtIdV (xg true σ x)) av := hv
    generalize xg true σ x = xv at hb hv'
    unfold cvtIdV at hv'
    split at hv'
    · rename_i m
      have e : a.eval y = .string ⟨m.toArray⟩ := VR.inv_str hb
      rw [hv'.tot]
      exact ⟨.string ⟨m.toArray⟩, fun _ _ _ _ => by simp [execOp, e, convert, underlying, hs, ht], NR.mk rfl (.str _) rfl⟩
    · exact hv'.no.elim
  · cases hc2

theorem pv_nilCheck (h : Inv G n σ a w) {op : Op} {ty : TypeId} {x : IX} (hc : chkOp P op ty (.nilCheck x) = true) {av : AV} (hv : POK (pv (.nilCheck x) (xg true σ) σ) av) :
    ∃ v, runs P a op ty w v ∧ NR G w σ a av v := by
  cases op <;> first | (simp [chkOp] at hc; done) | skip
  rename_i y
  have hb := BR.of_inv h hc
  have hv' : POK (nilCheckV (xg true σ x)) av := hv
  generalize xg true σ x = xv at hb hv'
  unfold nilCheckV at hv'
  split at hv'
  · rename_i b o
    have e : a.eval y = .pointer (some ⟨b, o, none⟩) := VR.inv_ref hb
    rw [hv'.tot]
    exact ⟨_, fun _ _ _ _ => by simp [execOp, e], NR.mk rfl (.ref _ _) rfl⟩
  · exact hv'.no.elim

/-- The bin operators. -/
theorem pv_bin (h : Inv G n σ a w) {op : Op} {ty : TypeId} {bo : BinOp} {x y : IX} (hc : chkOp P op ty (.bin bo x y) = true) {av : AV} (hv : POK (pv (.bin bo x y) (xg true σ) σ) av) :
    ∃ v, runs P a op ty w v ∧ NR G w σ a av v := by
  cases op <;> first | (simp [chkOp] at hc; done) | skip
  rename_i b t u v yt
  simp only [chkOp, Bool.and_eq_true, decide_eq_true_eq] at hc
  obtain ⟨⟨rfl, hx⟩, hy⟩ := hc
  have hbx := BR.of_inv h hx
  have hby := BR.of_inv h hy
  have hv' : POK (binV bo (xg true σ x) (xg true σ y)) av := hv
  generalize xg true σ x = xv at hbx hv'
  generalize xg true σ y = yv at hby hv'
  unfold binV at hv'
  split at hv'
  · rename_i k p k' q
    have e1 : a.eval u = .int k p := VR.inv_int hbx
    have e2 : a.eval v = .int k' q := VR.inv_int hby
    have fin : ∀ (V : AV) (r : Value), isV V = true → AB.view V = V → VR w G.R V r → POK (kk k k' (.tot V)) av → (k = k' → runs P a (.binOp bo t u v yt) ty w r) → ∃ v', runs P a (.binOp bo t u v yt) ty w v' ∧ NR G w σ a av v' := by
      intro V r h1 h2 h3 h4 h5
      unfold kk kEq at h4
      by_cases hk : k = k'
      · rw [decide_eq_true hk] at h4
        rw [h4.tot]
        exact ⟨r, h5 hk, NR.mk h1 h3 h2⟩
      · rw [decide_eq_false hk] at h4; exact h4.no.elim
    cases bo
    case shl =>
      obtain ⟨rfl, h0⟩ := POK.prt hv'
      exact ⟨_, fun _ _ _ _ => by simp [execOp, e1, e2, eqGuard, binOp, Op.shift, Int.not_lt.2 h0, wrapI], NR.mk rfl (.int _ _) rfl⟩
    case shr =>
      obtain ⟨rfl, h0⟩ := POK.prt hv'
      exact ⟨_, fun _ _ _ _ => by simp [execOp, e1, e2, eqGuard, binOp, Op.shift, Int.not_lt.2 h0], NR.mk rfl (.int _ _) rfl⟩
    case quo =>
      have hv'' : POK (kk k k' (.prt (q ≠ 0) (.int k (wrapI k (p.tdiv q))))) av := hv'
      unfold kk kEq at hv''
      by_cases hk : k = k'
      · rw [decide_eq_true hk] at hv''
        obtain ⟨rfl, h0⟩ := POK.prt hv''
        subst hk
        exact ⟨_, fun _ _ _ _ => by simp [execOp, e1, e2, eqGuard, binOp, Op.intDiv, h0, wrapI], NR.mk rfl (.int _ _) rfl⟩
      · rw [decide_eq_false hk] at hv''; exact hv''.no.elim
    case rem =>
      have hv'' : POK (kk k k' (.prt (q ≠ 0) (.int k (p.tmod q)))) av := hv'
      unfold kk kEq at hv''
      by_cases hk : k = k'
      · rw [decide_eq_true hk] at hv''
        obtain ⟨rfl, h0⟩ := POK.prt hv''
        subst hk
        exact ⟨_, fun _ _ _ _ => by simp [execOp, e1, e2, eqGuard, binOp, Op.intDiv, h0], NR.mk rfl (.int _ _) rfl⟩
      · rw [decide_eq_false hk] at hv''; exact hv''.no.elim
    case add => exact fin _ _ rfl rfl (.int _ _) hv' fun hk _ _ _ _ => by subst hk; simp [execOp, e1, e2, eqGuard, binOp, Op.intArith, wrapI]
    case sub => exact fin _ _ rfl rfl (.int _ _) hv' fun hk _ _ _ _ => by subst hk; simp [execOp, e1, e2, eqGuard, binOp, Op.intArith, wrapI]
    case mul => exact fin _ _ rfl rfl (.int _ _) hv' fun hk _ _ _ _ => by subst hk; simp [execOp, e1, e2, eqGuard, binOp, Op.intArith, wrapI]
    case and => exact fin _ _ rfl rfl (.int _ _) hv' fun hk _ _ _ _ => by subst hk; simp [execOp, e1, e2, eqGuard, binOp, Op.intBits]
    case or => exact fin _ _ rfl rfl (.int _ _) hv' fun hk _ _ _ _ => by subst hk; simp [execOp, e1, e2, eqGuard, binOp, Op.intBits]
    case xor => exact fin _ _ rfl rfl (.int _ _) hv' fun hk _ _ _ _ => by subst hk; simp [execOp, e1, e2, eqGuard, binOp, Op.intBits]
    case andNot => exact fin _ _ rfl rfl (.int _ _) hv' fun hk _ _ _ _ => by subst hk; simp [execOp, e1, e2, eqGuard, binOp, Op.intBits]
    case eql => exact fin _ _ rfl rfl (.bool _) hv' fun hk _ _ _ _ => by subst hk; simp [execOp, e1, e2, eqGuard, binOp, Op.intCmp]
    case neq => exact fin _ _ rfl rfl (.bool _) hv' fun hk _ _ _ _ => by subst hk; simp [execOp, e1, e2, eqGuard, binOp, Op.intCmp]
    case lss => exact fin _ _ rfl rfl (.bool _) hv' fun hk _ _ _ _ => by subst hk; simp [execOp, e1, e2, eqGuard, binOp, Op.intCmp]
    case leq => exact fin _ _ rfl rfl (.bool _) hv' fun hk _ _ _ _ => by subst hk; simp [execOp, e1, e2, eqGuard, binOp, Op.intCmp]
    case gtr => exact fin _ _ rfl rfl (.bool _) hv' fun hk _ _ _ _ => by subst hk; simp [execOp, e1, e2, eqGuard, binOp, Op.intCmp]
    case geq => exact fin _ _ rfl rfl (.bool _) hv' fun hk _ _ _ _ => by subst hk; simp [execOp, e1, e2, eqGuard, binOp, Op.intCmp]
  · rename_i p q
    have e1 : a.eval u = .string ⟨p.toArray⟩ := VR.inv_str hbx
    have e2 : a.eval v = .string ⟨q.toArray⟩ := VR.inv_str hby
    have tl : ∀ l : List UInt8, (ByteArray.mk l.toArray).toList = l := fun l => by rw [ByteArray.toList_eq]
    cases bo <;> first | exact (POK.no hv').elim | skip
    case add =>
      obtain ⟨rfl, h0⟩ := POK.prt hv'
      have h0' : p.length + q.length ≤ 9223372036854775807 := by
        have : ((p.length + q.length : Nat) : Int) ≤ 9223372036854775807 := h0
        omega
      refine ⟨.string ⟨(p ++ q).toArray⟩, fun _ _ _ _ => ?_, NR.mk rfl (.str _) rfl⟩
      have hr := run_string_add_sum (P := P) w ⟨p.toArray⟩ ⟨q.toArray⟩ (by simpa [ByteArray.size] using h0')
      rw [ByteArray.mk_append_mk] at hr
      simp [execOp, e1, e2, eqGuard, binOp, hr]
    all_goals
      rw [POK.tot hv']
      exact ⟨.bool _, fun _ _ _ _ => by simp [execOp, e1, e2, eqGuard, binOp, Op.stringOp, tl], NR.mk rfl (.bool _) rfl⟩
  · exact hv'.no.elim

theorem pv_eqB (h : Inv G n σ a w) {op : Op} {ty : TypeId} {ne : Bool} {x y : IX} (hc : chkOp P op ty (.eqB ne x y) = true) {av : AV} (hv : POK (pv (.eqB ne x y) (xg true σ) σ) av) :
    ∃ v, runs P a op ty w v ∧ NR G w σ a av v := by
  cases op <;> first | (simp [chkOp] at hc; done) | skip
  rename_i b t u v yt
  simp only [chkOp, Bool.and_eq_true, decide_eq_true_eq] at hc
  obtain ⟨⟨⟨rfl, hx⟩, hy⟩, ht⟩ := hc
  have hbx := BR.of_inv h hx
  have hby := BR.of_inv h hy
  have hv' : POK (eqBV ne (xg true σ x) (xg true σ y)) av := hv
  generalize xg true σ x = xv at hbx hv'
  generalize xg true σ y = yv at hby hv'
  have htb : P.underlying t = some .bool := by
    unfold boolT at ht
    split at ht
    · assumption
    · cases ht
  unfold eqBV at hv'
  split at hv'
  · rename_i p q
    have e1 : a.eval u = .bool p := VR.inv_bool hbx
    have e2 : a.eval v = .bool q := VR.inv_bool hby
    rw [hv'.tot]
    refine ⟨.bool ((p == q) != ne), fun _ _ _ _ => ?_, NR.mk rfl (.bool _) rfl⟩
    cases ne <;> simp [execOp, e1, e2, eqGuard, binOp, run_equal_bool w t p q htb]
  · exact hv'.no.elim

theorem run_equalIn_nilp {w : World} (d : Nat) {t e : TypeId} (hte : P.underlying t = some (.pointer e)) (p q : Option Addr) (hpq : p = none ∨ q = none) :
    (Op.equalIn (d + 1) t (.pointer p) (.pointer q)).run P w = .ok (p.isNone && q.isNone) w := by
  rcases hpq with rfl | rfl
  · simp [Op.equalIn, run_underlying hte]
  · cases p <;> simp [Op.equalIn, run_underlying hte]

theorem run_equalIn_nilsl {w : World} (d : Nat) {t e : TypeId} (hte : P.underlying t = some (.slice e)) (b : Addr) (l c : Nat) :
    (Op.equalIn (d + 1) t (.slice (some b) l c) (.slice none 0 0)).run P w = .ok false w := by
  simp [Op.equalIn, run_underlying hte]

theorem pv_eqP (h : Inv G n σ a w) {op : Op} {ty : TypeId} {ne : Bool} {x y : IX} (hc : chkOp P op ty (.eqP ne x y) = true) {av : AV} (hv : POK (pv (.eqP ne x y) (xg true σ) σ) av) :
    ∃ v, runs P a op ty w v ∧ NR G w σ a av v := by
  cases op <;> first | (simp [chkOp] at hc; done) | skip
  rename_i b t u v yt
  simp only [chkOp, Bool.and_eq_true, decide_eq_true_eq] at hc
  obtain ⟨⟨⟨rfl, hx⟩, hy⟩, ht⟩ := hc
  have hbx := BR.of_inv h hx
  have hby := BR.of_inv h hy
  have hv' : POK (eqPV ne (xg true σ x) (xg true σ y)) av := hv
  generalize xg true σ x = xv at hbx hv'
  generalize xg true σ y = yv at hby hv'
  have htb : ∃ e, P.underlying t = some (.pointer e) := by
    unfold ptrT at ht
    split at ht
    · exact ⟨_, by assumption⟩
    · cases ht
  obtain ⟨e, hte⟩ := htb
  have eqn : ∀ p q : Option Addr, (p = none ∨ q = none) → (Op.equal t (.pointer p) (.pointer q)).run P w = .ok (p.isNone && q.isNone) w := by
    exact fun p q hpq => run_equalIn_nilp 9999 hte p q hpq
  have fin : ∀ p q : Option Addr, a.eval u = .pointer p → a.eval v = .pointer q → (p = none ∨ q = none) → runs P a (.binOp (if ne = true then .neq else .eql) t u v yt) ty w (.bool ((p.isNone && q.isNone) != ne)) := by
    intro p q e1 e2 hpq _ _ _ _
    cases ne <;> simp [execOp, e1, e2, eqGuard, binOp, eqn p q hpq]
  unfold eqPV at hv'
  split at hv'
  · rw [hv'.tot]
    refine ⟨_, fin _ _ (VR.inv_nilp hbx) (VR.inv_nilp hby) (.inl rfl), NR.mk rfl ?_ rfl⟩
    cases ne <;> exact .bool _
  · rw [hv'.tot]
    refine ⟨_, fin _ _ (VR.inv_ref hbx) (VR.inv_nilp hby) (.inr rfl), NR.mk rfl ?_ rfl⟩
    cases ne <;> exact .bool _
  · rw [hv'.tot]
    refine ⟨_, fin _ _ (VR.inv_nilp hbx) (VR.inv_ref hby) (.inl rfl), NR.mk rfl ?_ rfl⟩
    cases ne <;> exact .bool _
  · exact hv'.no.elim

theorem pv_eqS (h : Inv G n σ a w) {op : Op} {ty : TypeId} {ne : Bool} {x y : IX} (hc : chkOp P op ty (.eqS ne x y) = true) {av : AV} (hv : POK (pv (.eqS ne x y) (xg true σ) σ) av) :
    ∃ v, runs P a op ty w v ∧ NR G w σ a av v := by
  cases op <;> first | (simp [chkOp] at hc; done) | skip
  rename_i b t u v yt
  simp only [chkOp, Bool.and_eq_true, decide_eq_true_eq] at hc
  obtain ⟨⟨⟨rfl, hx⟩, hy⟩, ht⟩ := hc
  have hbx := BR.of_inv h hx
  obtain ⟨e, hte⟩ : ∃ e, P.underlying t = some (.slice e) := by
    unfold elemOfSl at ht
    split at ht
    · exact ⟨_, by assumption⟩
    · cases ht
  have fin : ∀ (d : Addr) (l c : Nat), a.eval u = .slice (some d) l c → a.eval v = .slice none 0 0 → runs P a (.binOp (if ne = true then .neq else .eql) t u v yt) ty w (.bool ne) := by
    intro d l c e1 e2 _ _ _ _
    have : (Op.equal t (.slice (some d) l c) (.slice none 0 0)).run P w = .ok false w := run_equalIn_nilsl 9999 hte d l c
    cases ne <;> simp [execOp, e1, e2, eqGuard, binOp, this]
  cases y with
  | t i => exact (POK.no hv).elim
  | c yv =>
    by_cases hyv : ∃ z, yv = .sl true z 0 []
    · obtain ⟨z, rfl⟩ := hyv
      have e2 : a.eval v = .slice none 0 0 := by
        unfold chkX at hy
        cases v <;> simp at hy
        rename_i c
        show c = _
        unfold cR at hy
        split at hy <;> simp_all
      have hv' : POK (eqSV ne (xg true σ x) (.sl true z 0 [])) av := hv
      generalize xg true σ x = xv at hbx hv'
      unfold eqSV at hv'
      split at hv'
      · rename_i o z' m cs _ _ _
        rw [hv'.tot]
        rcases VR.inv_sl hbx with ⟨_, h0, _⟩ | ⟨b, off, cap, e1, _⟩
        · cases h0
        · exact ⟨_, fin _ _ _ e1 e2, NR.mk rfl (.bool _) rfl⟩
      · rw [hv'.tot]
        exact ⟨_, fin _ _ _ (VR.inv_arr hbx) e2, NR.mk rfl (.bool _) rfl⟩
      · exact hv'.no.elim
    · have : pv (.eqS ne x (.c yv)) (xg true σ) σ = .no := by
        unfold pv
        split <;> first | rfl | (rename_i hh; cases hh; exact absurd ⟨_, rfl⟩ hyv) | (rename_i hh; cases hh)
      rw [this] at hv
      exact hv.no.elim
end
end Go.AB
