/- The abstract layer, part 18: a function's contract from its IR. -/
import Derived.Test.YtbinmjafmcaehaaAb17
namespace Go.AB
open Go

/-- A result: a slot; whether it is taken out of it; or so many cells of the block that it leads to. -/
structure IRes where
  t : Nat
  own : Bool
  cell : Option (Nat × Bool) := none
  deriving Inhabited

def resC (multi : Bool) : Option (List AV) → AV
  | some cs => aggOf multi cs
  | none => .undef
def resV (σ : St) (r : IRes) : AV := match r.cell with
  | none => bif r.own then look σ.e r.t else view (look σ.e r.t)
  | some (n, multi) => resC multi (rd σ (look σ.e r.t) n)
def resVs (σ : St) (res : List IRes) : List AV := res.map (resV σ)

def resIs (P : Program) : List ResultVar → List IRes → Bool
  | [], [] => true
  | .tmp t :: r, i :: s => t == i.t && i.cell.isNone && (!i.own || s.all fun j => !(j.own && j.t == i.t)) && resIs P r s
  | .cell t ty :: r, i :: s => t == i.t && !i.own && (match i.cell with
    | some (n, multi) => sizeIs P ty n && aggIs P ty multi && (multi || n == 1)
    | none => false) && resIs P r s
  | _, _ => false

/-- The state at a function's start. -/
def startE : Nat → List AV → List (Nat × AV)
  | _, [] => []
  | i, a :: r => (i, view a) :: startE (i + 1) r
def start (args : List AV) (s : Store) : St := { e := startE 0 args, lp := [], s := s }

def allV (cs : List AV) : Bool := cs.all isV

def retK (res : List IRes) (Q : List AV → Store → Prop) : Exit → St → Prop
  | .ret, σ => allV (resVs σ res) = true ∧ Q (resVs σ res) σ.s
  | .normal, σ => allV (resVs σ res) = true ∧ Q (resVs σ res) σ.s
  | _, _ => False

def fnIs (P : Program) (f : FuncId) (n : Nat) (res : List IRes) (ic : IC) : Bool := match P.funcs[f]? with
  | some fn => fn.ntmps == n && resIs P fn.results.toList res && (match fn.body with
    | some c => chk P n c ic
    | none => false)
  | none => false

section
variable {P : Program} {G G' : Gh} {n : Nat} {σ : St} {a : Act} {w w' : World}

theorem look_startE (i : Nat) : ∀ (args : List AV) (k : Nat), look (startE k args) i = if k ≤ i then (match args[i - k]? with | some a => view a | none => .undef) else .undef
  | [], k => by
    show AV.undef = _
    split <;> simp
  | a :: r, k => by
    show look ((k, view a) :: startE (k + 1) r) i = _
    rw [look_cons, look_startE i r (k + 1)]
    by_cases h : k = i
    · subst h; simp
    · by_cases h2 : k ≤ i
      · have h3 : k + 1 ≤ i := by omega
        have h4 : i - k = (i - (k + 1)) + 1 := by omega
        rw [if_neg h, if_pos h3, if_pos h2, h4, List.getElem?_cons_succ]
      · rw [if_neg h, if_neg (by omega), if_neg h2]

theorem start_inv {args : List AV} {s : Store} {vs : Array Value} (hg : GoodW G w) (hs : StoreR G w s) (ha : ArgsR w G.R args vs) (hv : allV args = true) (hn : args.length ≤ n) :
    Inv G n (start args s) { tmps := vs ++ Array.replicate (n - vs.size) undef, defers := [] } w := by
  have hsz : vs.size = args.length := ha.1
  refine ⟨hg, hs, by simp; omega, fun i v hi => ?_, fun i hi => ?_, fun i t ht => ?_, rfl⟩
  · show ValS G w (startE 0 args) _ i (look (startE 0 args) i) v
    rw [look_startE, if_pos (Nat.zero_le _), Nat.sub_zero]
    cases hai : args[i]? with
    | none => exact ⟨.undef _, trivial⟩
    | some av =>
      have hlt : i < args.length := (List.getElem?_eq_some_iff.1 hai).1
      have hvi : vs[i]? = some v := by
        have hi' : (vs ++ Array.replicate (n - vs.size) undef)[i]? = some v := hi
        rw [Array.getElem?_append_left (by omega)] at hi'
        exact hi'
      have hV : isV av = true := by
        have := List.all_eq_true.1 hv
        exact this av (List.mem_of_getElem? hai)
      exact ValS.mk_view hV (ha.2 i av v hai hvi)
  · show look (startE 0 args) i = .undef
    rw [look_startE, if_pos (Nat.zero_le _), Nat.sub_zero, List.getElem?_eq_none (by omega)]
  · have ht' : holdsLp (look (startE 0 args) i) t := ht
    rw [look_startE, if_pos (Nat.zero_le _), Nat.sub_zero] at ht'
    cases hai : args[i]? with
    | none => rw [hai] at ht'; exact ht'.elim
    | some av =>
      rw [hai] at ht'
      have hV : isV av = true := List.all_eq_true.1 hv av (List.mem_of_getElem? hai)
      exact (not_holdsLp (isV_view hV) t ht').elim

/-- Which result takes a slot. -/
def resAt : List IRes → Nat → Nat → Option Nat
  | [], _, _ => none
  | r :: s, k, i => bif r.own && r.t == i then some k else resAt s (k + 1) i

def outO (G : Gh) (res : List IRes) : Owner → Owner
  | .none => .none
  | .frame => .frame
  | .sh => .sh
  | .slot i j => (match j, resAt res 0 i with
    | 0, some k => .res k
    | _, _ => .none)
  | .cell b j => if G.O b = .sh then .cell b j else .none
  | _ => .none

theorem resIs_len : ∀ (vs : List ResultVar) (res : List IRes), resIs P vs res = true → vs.length = res.length
  | [], [], _ => rfl
  | v :: vs, r :: res, h => by
    have : resIs P vs res = true := by
      cases v <;> simp only [resIs, Bool.and_eq_true] at h <;> exact h.2
    simp [resIs_len vs res this]
  | [], _ :: _, h => by simp [resIs] at h
  | _ :: _, [], h => by simp [resIs] at h

theorem resAt_some : ∀ (vs : List ResultVar) (res : List IRes) (k j : Nat) (r : IRes), resIs P vs res = true → res[j]? = some r → r.own = true → resAt res k r.t = some (k + j)
  | v :: vs, r0 :: res, k, 0, r, _, hj, ho => by
    simp at hj; subst hj
    simp [resAt, ho]
  | v :: vs, r0 :: res, k, j + 1, r, h, hj, ho => by
    have hj' : res[j]? = some r := by simpa using hj
    have hrest : resIs P vs res = true := by
      cases v <;> simp only [resIs, Bool.and_eq_true] at h <;> exact h.2
    have hne : (r0.own && r0.t == r.t) = false := by
      cases hr0 : r0.own with
      | false => rfl
      | true =>
        cases v with
        | cell => simp [resIs, hr0] at h
        | tmp t =>
        simp only [resIs, Bool.and_eq_true] at h
        have h1 := h.1.2
        rw [hr0] at h1
        have h1' : ∀ x ∈ res, x.own = false ∨ ¬x.t = r0.t := by simpa using h1
        rcases h1' r (List.mem_of_getElem? hj') with e | e
        · rw [ho] at e; cases e
        · simpa using fun e' => e e'.symm
    show (bif r0.own && r0.t == r.t then some k else resAt res (k + 1) r.t) = _
    rw [hne]
    show resAt res (k + 1) r.t = _
    rw [resAt_some vs res (k + 1) j r hrest hj' ho]
    congr 1; omega
  | [], r0 :: res, _, _, _, h, _, _ => by simp [resIs] at h
  | _, [], _, _, _, _, hj, _ => by simp at hj

theorem isV_of_view {av : AV} (h : isV (view av) = true) : isV av = true := by cases av <;> simp_all [isV, view]

def resTuple (vs : Array Value) : Value := if h : vs.size = 1 then vs[0] else .tuple vs

theorem mapM_some {α β : Type} (f : α → Sem β) (w : World) : ∀ (l : List α) (vs : List β), l.length = vs.length → (∀ (j : Nat) (x : α) (v : β), l[j]? = some x → vs[j]? = some v → (f x).run P w = .ok v w) → (l.mapM f).run P w = .ok vs w
  | [], [], _, _ => by simp
  | x :: l, v :: vs, hl, h => by
    rw [List.mapM_cons]
    simp [h 0 x v rfl rfl, mapM_some f w l vs (by simpa using hl) (fun j y z hy hz => h (j + 1) y z (by simpa using hy) (by simpa using hz))]
  | [], _ :: _, hl, _ => by simp at hl
  | _ :: _, [], hl, _ => by simp at hl

/-- How one result is read. -/
def oneRes (tmps : Array Value) : ResultVar → Sem Value
  | .tmp t => pure (tmps.getD t undef)
  | .cell a t => do loadVar t (← asAddr (tmps.getD a undef))

theorem results_run {fn : Func} (tmps : Array Value) (w : World) (vs : List Value) (hl : fn.results.toList.length = vs.length) (h : ∀ (j : Nat) (x : ResultVar) (v : Value), fn.results.toList[j]? = some x → vs[j]? = some v → (oneRes tmps x).run P w = .ok v w) :
    (results fn tmps).run P w = .ok (resTuple vs.toArray) w := by
  have e : (fn.results.toList.mapM (oneRes tmps)).run P w = .ok vs w := mapM_some _ w _ _ hl h
  unfold results
  rw [Array.mapM_eq_mapM_toList]
  have key : ∀ F : ResultVar → Sem Value, F = oneRes tmps → (do let vs ← List.toArray <$> fn.results.toList.mapM F; pure (if h : vs.size = 1 then vs[0] else .tuple vs) : Sem Value).run P w = .ok (resTuple vs.toArray) w := by
    intro F hF
    subst hF
    simp only [Sem.run_bind, Sem.run_map, e, Result.andThen_ok]
    rfl
  exact key _ (by funext x; cases x <;> rfl)

theorem FN.of {f : FuncId} {res : List IRes} {ic : IC} {args : List AV} {s : Store} {Q : List AV → Store → Prop} (hD : DrawOK P n) (hf : fnIs P f n res ic = true) (hv : allV args = true) (hn : args.length ≤ n)
    (hw : cwp P ic (retK res Q) (start args s)) : FN P f args s Q := by
  intro G w vs hg ho hs ha
  unfold fnIs at hf
  split at hf <;> try (cases hf; done)
  rename_i fn hfn
  simp only [Bool.and_eq_true, beq_iff_eq] at hf
  obtain ⟨⟨rfl, hres⟩, hf⟩ := hf
  split at hf <;> try (cases hf; done)
  rename_i c hb
  refine calls_of_wp hfn hb (cwp_sound hD ic c G w (retK res Q) _ G _ _ w hf ?_ (start_inv hg hs ha hv hn) (Pres.refl G w) hw)
  intro x G' σ' a' w' h hp hq
  have fin : allV (resVs σ' res) = true ∧ Q (resVs σ' res) σ'.s → a'.defers = [] ∧ ∃ v, (results fn a'.tmps).run P w' = .ok v w' ∧ ∃ v' rs s' G'', Ending.returned v = .returned v' ∧ Q rs s' ∧ GoodW G'' w' ∧ StoreR G'' w' s' ∧ ResR G'' w' rs v' ∧ Pres G w G'' w' := by
    intro hq
    obtain ⟨hall, hQ⟩ := hq
    refine ⟨h.def0, ?_⟩
    let G2 : Gh := ⟨G'.R, fun b => outO G' res (G'.O b)⟩
    have hV : ∀ (j : Nat) (r : IRes), res[j]? = some r → isV (resV σ' r) = true := fun j r hj => by
      refine List.all_eq_true.1 hall _ ?_
      exact List.mem_map.2 ⟨r, List.mem_of_getElem? hj, rfl⟩
    have hlen := resIs_len _ _ hres
    have get : ∀ (vs : List ResultVar) (rs : List IRes), resIs P vs rs = true → ∀ (j : Nat) (x : ResultVar) (r : IRes), vs[j]? = some x → rs[j]? = some r →
        (x = .tmp r.t ∧ r.cell = none) ∨ ∃ ty n m, x = .cell r.t ty ∧ r.cell = some (n, m) ∧ r.own = false ∧ sizeIs P ty n = true ∧ aggIs P ty m = true ∧ (m || n == 1) = true := by
      intro vs
      induction vs with
      | nil => intro rs _ j x r hx; simp at hx
      | cons v vs ih =>
        intro rs hh j x r hx hr
        cases rs with
        | nil => simp at hr
        | cons r0 rs =>
          cases j with
          | succ j =>
            refine ih rs ?_ j x r (by simpa using hx) (by simpa using hr)
            cases v <;> simp only [resIs, Bool.and_eq_true] at hh <;> exact hh.2
          | zero =>
            simp at hx hr; subst hx; subst hr
            cases v with
            | tmp t =>
              simp only [resIs, Bool.and_eq_true, beq_iff_eq] at hh
              exact .inl ⟨by rw [hh.1.1.1], by simpa using hh.1.1.2⟩
            | cell t ty =>
              simp only [resIs, Bool.and_eq_true, beq_iff_eq] at hh
              obtain ⟨⟨⟨h1, h2⟩, h3⟩, _⟩ := hh
              split at h3
              · rename_i n m hc
                simp only [Bool.and_eq_true] at h3
                exact .inr ⟨ty, n, m, by rw [h1], hc, by simpa using h2, h3.1.1, h3.1.2, h3.2⟩
              · cases h3
    have hone : ∀ (j : Nat) (x : ResultVar) (r : IRes), fn.results.toList[j]? = some x → res[j]? = some r → ∃ v, (oneRes a'.tmps x).run P w' = .ok v w' ∧ VR w' G2.R (resV σ' r) v ∧ OwnR G2 w' (.res j) (resV σ' r) v := by
      intro j x r hx hj
      have hi := hV j r hj
      have hlk : look σ'.e r.t ≠ .undef := by
        intro e
        unfold resV at hi
        rw [e] at hi
        cases hr : r.cell with
        | none =>
          rw [hr] at hi
          cases ho : r.own with
          | true => rw [ho] at hi; cases hi
          | false => rw [ho] at hi; cases hi
        | some nm => rw [hr] at hi; obtain ⟨n1, m1⟩ := nm; cases hi
      have hlt : r.t < a'.tmps.size := by rw [h.size]; exact h.lt_of hlk
      rcases get _ _ hres j x r hx hj with ⟨rfl, hcell⟩ | ⟨ty, n1, m1, rfl, hcell, ho, hs1, ha1, h11⟩
      · refine ⟨a'.tmps.getD r.t undef, rfl, ?_⟩
        have hi' : isV (look σ'.e r.t) = true := by
          unfold resV at hi
          rw [hcell] at hi
          cases hr : r.own with
          | true => rw [hr] at hi; exact hi
          | false => rw [hr] at hi; exact isV_of_view hi
        have hs := h.slots r.t _ (eval_some hlt)
        rw [ValS.of_isV hi'] at hs
        have he : a'.eval (.tmp r.t) = a'.tmps.getD r.t undef := rfl
        rw [he] at hs
        unfold resV
        rw [hcell]
        cases hr : r.own with
        | false => exact ⟨hs.1.view, OwnR.view ..⟩
        | true =>
          refine ⟨hs.1, ?_⟩
          have ho := hs.2
          show OwnR G2 w' (.res j) (look σ'.e r.t) _
          unfold OwnR at ho ⊢
          split
          · rename_i sz m cs hsl
            rw [hsl] at ho
            intro base m' cap hv hc
            obtain ⟨b, off, c, e, fz, q1, q2, q3⟩ := ho base m' cap hv hc
            refine ⟨b, off, c, e, fz, q1, ?_, q3⟩
            show outO G' res (G'.O b) = .res j
            rw [q2]
            have := resAt_some fn.results.toList res 0 j r hres hj hr
            simp [outO, this]
          · trivial
      · unfold resV at hi ⊢
        rw [hcell] at hi ⊢
        have hb : BR G' w' σ' a' (.t r.t) (look σ'.e r.t) (a'.tmps.getD r.t undef) := by
          have := BR.of_inv h (o := .tmp r.t) (x := .t r.t) (by simp [chkX])
          have hun : xg true σ' (.t r.t) = unw true (look σ'.e r.t) := rfl
          rw [hun] at this
          generalize look σ'.e r.t = av at this hi
          cases av <;> first | exact this | (cases hi; done) | trivial
        have hi : isV (resC m1 (rd σ' (look σ'.e r.t) n1)) = true := hi
        show ∃ v, _ ∧ VR w' G2.R (resC m1 (rd σ' (look σ'.e r.t) n1)) v ∧ OwnR G2 w' (.res j) (resC m1 (rd σ' (look σ'.e r.t) n1)) v
        cases hrd : rd σ' (look σ'.e r.t) n1 with
        | none => rw [hrd] at hi; cases hi
        | some cs =>
          obtain ⟨b, off, e, hl, hat, hvw⟩ := rd_sound h hb hrd
          obtain ⟨v, hrun, hvr⟩ := loadVar_sound hs1 ha1 h11 hl hat
          refine ⟨v, ?_, hvr, ?_⟩
          · show (do loadVar ty (← asAddr (a'.tmps.getD r.t undef)) : Sem Value).run P w' = _
            rw [e]
            simp [asAddr, hrun]
          · have hview := view_aggOf (multi := m1) hvw
            show OwnR G2 w' (.res j) (aggOf m1 cs) v
            rw [← hview]; exact OwnR.view ..
    have hall2 : ∃ vs : List Value, fn.results.toList.length = vs.length ∧ ∀ (j : Nat) (x : ResultVar) (r : IRes) (v : Value), fn.results.toList[j]? = some x → res[j]? = some r → vs[j]? = some v → (oneRes a'.tmps x).run P w' = .ok v w' ∧ VR w' G2.R (resV σ' r) v ∧ OwnR G2 w' (.res j) (resV σ' r) v := by
      have hch : ∀ j : Fin fn.results.toList.length, ∃ v, ∀ (x : ResultVar) (r : IRes), fn.results.toList[j.1]? = some x → res[j.1]? = some r → (oneRes a'.tmps x).run P w' = .ok v w' ∧ VR w' G2.R (resV σ' r) v ∧ OwnR G2 w' (.res j.1) (resV σ' r) v := by
        intro j
        have hr : j.1 < res.length := by rw [← hlen]; exact j.2
        obtain ⟨v, hv⟩ := hone j.1 _ _ (List.getElem?_eq_getElem j.2) (List.getElem?_eq_getElem hr)
        refine ⟨v, fun x r hx hr' => ?_⟩
        rw [List.getElem?_eq_getElem j.2] at hx
        rw [List.getElem?_eq_getElem hr] at hr'
        injection hx with hx; injection hr' with hr'
        subst hx; subst hr'
        exact hv
      refine ⟨List.ofFn fun j => (hch j).choose, by simp, fun j x r v hx hr hv => ?_⟩
      have hj : j < fn.results.toList.length := (List.getElem?_eq_some_iff.1 hx).1
      have := (hch ⟨j, hj⟩).choose_spec x r hx hr
      simp only [List.getElem?_ofFn, hj, dite_true] at hv
      injection hv with hv
      rw [hv] at this
      exact this
    obtain ⟨vs, hvl, hvs⟩ := hall2
    refine ⟨_, results_run a'.tmps w' vs hvl (fun j x v hx hv => by
      have hj : j < res.length := by rw [← hlen]; exact (List.getElem?_eq_some_iff.1 hx).1
      exact (hvs j x _ v hx (List.getElem?_eq_getElem hj) hv).1), ?_⟩
    have hval : ∀ (j : Nat) (r : IRes) (v : Value), res[j]? = some r → vs[j]? = some v → VR w' G2.R (resV σ' r) v ∧ OwnR G2 w' (.res j) (resV σ' r) v := by
      intro j r v hr hv
      have hj : j < fn.results.toList.length := by rw [hvl]; exact (List.getElem?_eq_some_iff.1 hv).1
      exact (hvs j _ r v (List.getElem?_eq_getElem hj) hr hv).2
    have hvl2 : vs.length = res.length := by rw [← hvl, hlen]
    refine ⟨_, resVs σ' res, σ'.s, G2, rfl, hQ, ⟨fun b hb => ?_, h.good.newR⟩, ?_, ?_, ?_⟩
    · show outO G' res (G'.O b) = .none
      rw [h.good.newO b hb]; rfl
    · refine h.store.mono' (fun _ _ hv => hv) (fun b hb => ⟨?_, rfl, rfl⟩) (fun b c j hb hc => ⟨?_, rfl, rfl⟩)
      · show outO G' res (G'.O b) = .sh
        rw [hb]; rfl
      · show outO G' res (G'.O c) = .cell b j
        rw [hc]; simp [outO, hb]
    · match res, vs, hvl2, hval with
      | [], [], _, _ => exact ⟨#[], rfl, rfl, fun j x y hx => by simp [resVs] at hx⟩
      | [r], [v], _, hval => exact hval 0 r v rfl rfl
      | r1 :: r2 :: rr, v1 :: v2 :: vv, hl2, hval =>
        refine ⟨_, rfl, by simpa [resVs] using hl2, fun j x y hx hy => ?_⟩
        have hx' : ((r1 :: r2 :: rr).map (resV σ'))[j]? = some x := hx
        rw [List.getElem?_map] at hx'
        cases hj : (r1 :: r2 :: rr)[j]? with
        | none => rw [hj] at hx'; cases hx'
        | some r =>
          rw [hj] at hx'
          injection hx' with hx'
          have hy' : (v1 :: v2 :: vv)[j]? = some y := by simpa using hy
          subst hx'
          exact hval j r y hj hy'
    · refine ⟨hp.os, hp.tape, hp.output, hp.size, hp.mono, hp.stable, hp.frame, fun b hb ho => ?_, fun b hb ho => ?_⟩
      · obtain ⟨e1, e2⟩ := hp.frameO b hb ho
        exact ⟨by show outO G' res (G'.O b) = _; rw [e1]; rfl, e2⟩
      · obtain ⟨e1, e2⟩ := hp.noneO b hb ho
        exact ⟨by show outO G' res (G'.O b) = _; rw [e1]; rfl, e2⟩
  cases x with
  | ret => exact fin hq
  | normal => exact fin hq
  | _ => exact hq.elim
end
end Go.AB
