/- The abstract layer, part 22: regions that draw their order are told rightly. -/
import Derived.Test.YtbinmjafmcaehaaAb21
namespace Go.AB
open Go

section
variable {P : Program} {G G' : Gh} {n : Nat} {σ σ' : St} {a : Act} {w w' : World} {ops : Array Oper} {iops : List IOper} {q : Nat}

def mk : Nat → List IOper → List AV → Pend
  | k, o :: l, v :: vs => (k, o, v) :: mk (k + 1) l vs
  | _, _, _ => []

theorem qwp_pend {K : St → Prop} : ∀ (q : Nat) (l : List IOper) (σ : St) (k : Nat), q ≤ l.length → qwp P q l σ K → ∃ vs : List AV, vs.length = q ∧ Chain P σ (mk k l vs) ∧ swp P (l.drop q) (fin σ (mk k l vs)) K
  | 0, l, σ, k, _, h => ⟨[], rfl, by cases l <;> trivial, by cases l <;> exact h⟩
  | q + 1, [], _, _, hl, _ => by simp at hl
  | q + 1, o :: l, σ, k, hl, h => by
    obtain ⟨hf, h1⟩ := h
    obtain ⟨v, hv, hy, hk⟩ := q1_inv h1
    obtain ⟨vs, h2, h3, h4⟩ := qwp_pend q l (step σ o v) (k + 1) (by simpa using hl) hk
    exact ⟨v :: vs, by simp [h2], ⟨hf, hv, hy, h3⟩, h4⟩

theorem mk_mem : ∀ (l : List IOper) (vs : List AV) (k : Nat) (i : Nat) (o : IOper) (v : AV), (i, o, v) ∈ mk k l vs → ∃ j, i = k + j ∧ j < vs.length ∧ l[j]? = some o
  | [], _, _, _, _, _, h => by simp [mk] at h
  | _ :: _, [], _, _, _, _, h => by simp [mk] at h
  | o' :: l, v' :: vs, k, i, o, v, h => by
    rcases List.mem_cons.1 h with h | h
    · injection h with h1 h2; injection h2 with h2 h3; subst h1; subst h2
      exact ⟨0, rfl, by simp, rfl⟩
    · obtain ⟨j, h1, h2, h3⟩ := mk_mem l vs (k + 1) i o v h
      exact ⟨j + 1, by omega, by simpa using h2, by simpa using h3⟩

theorem mk_sorted : ∀ (l : List IOper) (vs : List AV) (k : Nat), (mk k l vs).Pairwise fun x y => x.1 < y.1
  | [], _, _ => by simp [mk]
  | _ :: _, [], _ => by simp [mk]
  | o :: l, v :: vs, k => by
    refine List.Pairwise.cons (fun y hy => ?_) (mk_sorted l vs (k + 1))
    obtain ⟨i, o', v'⟩ := y
    obtain ⟨j, h1, _⟩ := mk_mem l vs (k + 1) i o' v' hy
    show k < i
    omega

theorem mk_has : ∀ (l : List IOper) (vs : List AV) (k j : Nat), j < vs.length → j < l.length → ∃ o v, (k + j, o, v) ∈ mk k l vs
  | [], _, _, _, _, h => by simp at h
  | _ :: _, [], _, _, h, _ => by simp at h
  | o :: l, v :: vs, k, 0, _, _ => ⟨o, v, List.mem_cons_self⟩
  | o :: l, v :: vs, k, j + 1, h1, h2 => by
    obtain ⟨o', v', h⟩ := mk_has l vs (k + 1) j (by simpa using h1) (by simpa using h2)
    refine ⟨o', v', List.mem_cons_of_mem _ ?_⟩
    rw [show k + (j + 1) = k + 1 + j by omega]
    exact h

theorem chkOpers_get : ∀ (l : List Oper) (l' : List IOper), chkOpers P n ops l l' = true → l.length = l'.length ∧ ∀ (k : Nat) (o : Oper) (o' : IOper), l[k]? = some o → l'[k]? = some o' → chkOper P n ops o o' = true
  | [], [], _ => ⟨rfl, fun k o o' h => by simp at h⟩
  | o :: l, o' :: l', h => by
    simp only [chkOpers, Bool.and_eq_true] at h
    obtain ⟨h1, h2⟩ := chkOpers_get l l' h.2
    refine ⟨by simp [h1], fun k x x' hx hx' => ?_⟩
    cases k with
    | zero => simp at hx hx'; subst hx; subst hx'; exact h.1
    | succ k => exact h2 k x x' (by simpa using hx) (by simpa using hx')
  | [], _ :: _, h => by simp [chkOpers] at h
  | _ :: _, [], h => by simp [chkOpers] at h

theorem wpOp_one {Q : Exit → Act → World → Prop} {i : Nat} {o : Oper} {next : Act → World → Prop} (ho : ops[i]? = some o) (h : oneP P ops o a w next Q) : wpOp P ops Q i next a w := by
  unfold wpOp
  simp only [ho]
  exact h

theorem bindsOn_iff {j i : Nat} {o : Oper} (ho : ops[j]? = some o) : bindsOn ops j i = true ↔ ∃ e ∈ o.after, Region.binds .any e = true ∧ e.on = i := by
  unfold bindsOn
  rw [ho]
  show (o.after.any fun e => Region.binds .any e && e.on == i) = true ↔ _
  rw [Array.any_eq_true']
  simp only [Bool.and_eq_true, beq_iff_eq]

theorem tail_sound {K : St → Prop} {Q : Exit → Act → World → Prop} (G₀ : Gh) (w₀ : World) (hc : chkOpers P n ops ops.toList iops = true)
    (hn : ∀ G' σ' a' w', Inv G' n σ' a' w' → Pres G₀ w₀ G' w' → K σ' → Q .normal a' w') : ∀ (l : List IOper) (k : Nat) (listed : Array Bool) (G : Gh) (σ : St) (a : Act) (w : World), l = iops.drop k → chkTail ops l.length k listed = true →
    swp P l σ K → Inv G n σ a w → Pres G₀ w₀ G w → wpAny P .any ops Q l.length listed a w
  | [], _, listed, G, σ, a, w, _, ht, hk, h, hp => ⟨List.isEmpty_iff.1 ht, hn G σ a w h hp hk⟩
  | o' :: l, k, listed, G, σ, a, w, hl, ht, hk, h, hp => by
    have ht' : (Region.ready .any ops listed == [k] && chkTail ops l.length (k + 1) (listed.setIfInBounds k true)) = true := ht
    simp only [Bool.and_eq_true, beq_iff_eq] at ht'
    obtain ⟨hr, ht'⟩ := ht'
    obtain ⟨hlen, hget⟩ := chkOpers_get _ _ hc
    have hk' : iops[k]? = some o' := by
      have : (iops.drop k)[0]? = some o' := by rw [← hl]; rfl
      simpa using this
    have hdrop : l = iops.drop (k + 1) := by
      have : (iops.drop k).tail = l := by rw [← hl]; rfl
      rw [← this]; simp
    have hklt : k < ops.toList.length := by rw [hlen]; exact (List.getElem?_eq_some_iff.1 hk').1
    have ho : ops.toList[k]? = some ops.toList[k] := List.getElem?_eq_getElem hklt
    refine ⟨fun h0 => absurd h0 (by rw [hr]; simp), fun i hi => ?_⟩
    rw [hr] at hi
    have : i = k := by simpa using hi
    subst this
    refine wpOp_one (by simp) (gwp_sound h (hget i _ _ ho hk') hk fun G' σ' a' w' h1 h2 h3 => ?_)
    exact tail_sound G₀ w₀ hc hn l (i + 1) _ G' σ' a' w' hdrop ht' h3 h1 (hp.trans h2)

structure Good (ops : Array Oper) (iops : List IOper) (q : Nat) (pend : Pend) (listed : Array Bool) : Prop where
  size : listed.size = ops.size
  un : ∀ k o v, (k, o, v) ∈ pend → k < q ∧ listed.getD k true = false ∧ iops[k]? = some o
  li : ∀ k, k < q → (∀ o v, (k, o, v) ∉ pend) → listed.getD k false = true
  tl : ∀ j, q ≤ j → j < ops.size → listed.getD j true = false
  cl : ∀ m, m < q → listed.getD m false = true → ∀ i, bindsOn ops m i = true → listed.getD i false = true
  sorted : pend.Pairwise fun x y => x.1 < y.1

theorem getD_ft {l : Array Bool} {i : Nat} (h : l.getD i false = true) : l.getD i true = true := by
  rcases Nat.lt_or_ge i l.size with hi | hi
  · simp [hi] at h ⊢; exact h
  · simp [Array.getElem?_eq_none hi] at h

theorem upTo_eq {listed : Array Bool} (hg : Good ops iops q [] listed) : listed = upTo ops.size q := by
  apply Array.ext
  · simp [upTo, hg.size]
  · intro i h1 h2
    simp only [upTo, Array.getElem_map, Array.getElem_range]
    have hi : i < ops.size := by rw [← hg.size]; exact h1
    by_cases hq : i < q
    · have := hg.li i hq (fun o v => by simp)
      simp [h1] at this
      simp [hq, this]
    · have := hg.tl i (by omega) hi
      simp [h1] at this
      simp [hq, this]

theorem mem_ready' {j : Nat} {listed : Array Bool} (h : j ∈ Region.ready .any ops listed) : j < ops.size ∧ listed.getD j true = false ∧ ∀ i, bindsOn ops j i = true → listed.getD i false = true := by
  obtain ⟨h0, o, ho, hall⟩ := mem_ready.1 h
  refine ⟨(Array.getElem?_eq_some_iff.1 ho).1, h0, fun i hi => ?_⟩
  obtain ⟨e, he, hb, hon⟩ := (bindsOn_iff ho).1 hi
  rw [← hon]
  exact hall e he hb

theorem good_step {pre post : Pend} {x : Nat × IOper × AV} {listed : Array Bool} (hg : Good ops iops q (pre ++ x :: post) listed) (hr : x.1 ∈ Region.ready .any ops listed) : Good ops iops q (pre ++ post) (listed.setIfInBounds x.1 true) := by
  obtain ⟨xk, xo, xv⟩ := x
  obtain ⟨r1, r2, r3⟩ := mem_ready' hr
  have hxq : xk < q := (hg.un xk xo xv (by simp)).1
  have hxs : xk < listed.size := by rw [hg.size]; exact r1
  have hsub : ∀ y, y ∈ pre ++ post → y ∈ pre ++ (xk, xo, xv) :: post := fun y hy => by
    rcases List.mem_append.1 hy with h | h
    · exact List.mem_append_left _ h
    · exact List.mem_append_right _ (List.mem_cons_of_mem _ h)
  have hsort := List.pairwise_append.1 hg.sorted
  have hpre : ∀ y ∈ pre, y.1 < xk := fun y hy => hsort.2.2 y hy (xk, xo, xv) List.mem_cons_self
  have hpost : ∀ y ∈ post, xk < y.1 := fun y hy => (List.pairwise_cons.1 hsort.2.1).1 y hy
  have hne : ∀ y ∈ pre ++ post, y.1 ≠ xk := fun y hy => by
    rcases List.mem_append.1 hy with h | h
    · have := hpre y h; omega
    · have := hpost y h; omega
  refine ⟨by simp [hg.size], fun k o v hk => ?_, fun k hk hno => ?_, fun j h1 h2 => ?_, fun m hm hl i hi => ?_, ?_⟩
  · obtain ⟨u1, u2, u3⟩ := hg.un k o v (hsub _ hk)
    exact ⟨u1, by rw [getD_set_ne true (Ne.symm (hne _ hk))]; exact u2, u3⟩
  · by_cases hkx : xk = k
    · subst hkx; simp [hxs]
    · rw [getD_set_ne false hkx]
      refine hg.li k hk fun o v hm => ?_
      rcases List.mem_append.1 hm with h | h
      · exact hno o v (List.mem_append_left _ h)
      · rcases List.mem_cons.1 h with h | h
        · injection h with h; exact hkx h.symm
        · exact hno o v (List.mem_append_right _ h)
  · rw [getD_set_ne true (by omega)]; exact hg.tl j h1 h2
  · by_cases hmx : xk = m
    · subst hmx; exact getD_set_true (r3 i hi)
    · rw [getD_set_ne false hmx] at hl
      exact getD_set_true (hg.cl m hm hl i hi)
  · rw [List.pairwise_append]
    exact ⟨hsort.1, (List.pairwise_cons.1 hsort.2.1).2, fun y hy z hz => hsort.2.2 y hy z (List.mem_cons_of_mem _ hz)⟩

theorem run_pend {Q : Exit → Act → World → Prop} (G₀ : Gh) (w₀ : World) (f : Nat) (hc : chkOpers P n ops ops.toList iops = true) (hq : q ≤ ops.size) (h1 : chkS1 ops q = true) (h2 : chkS2 ops q = true) (h3 : chkS3 ops q iops = true) (h4 : q < ops.size → Region.ready .any ops (upTo ops.size q) = [q]) :
    ∀ (m : Nat) (pend : Pend), pend.length = m → ∀ (listed : Array Bool) (σ : St), Good ops iops q pend listed → Chain P σ pend →
      (∀ G a w, Inv G n (fin σ pend) a w → Pres G₀ w₀ G w → wpAny P .any ops Q f (upTo ops.size q) a w) → ∀ (G : Gh) (a : Act) (w : World), Inv G n σ a w → Pres G₀ w₀ G w → wpAny P .any ops Q (m + f) listed a w := by
  intro m
  induction m with
  | zero =>
    intro pend hp listed σ hg _ hT G a w h hpr
    have : pend = [] := List.eq_nil_of_length_eq_zero hp
    subst this
    rw [upTo_eq hg, Nat.zero_add]
    exact hT G a w h hpr
  | succ m ih =>
    intro pend hp listed σ hg hch hT G a w h hpr
    obtain ⟨hlen, hget⟩ := chkOpers_get _ _ hc
    rw [show m + 1 + f = (m + f) + 1 by omega]
    refine ⟨fun h0 => ?_, fun i hi => ?_⟩
    · -- the first that waits is ready
      cases pend with
      | nil => simp at hp
      | cons x pend =>
        obtain ⟨k, o, v⟩ := x
        obtain ⟨u1, u2, u3⟩ := hg.un k o v List.mem_cons_self
        have hmem : k ∈ Region.ready .any ops listed := by
          have hk : k < ops.size := by omega
          refine mem_ready.2 ⟨u2, ops[k], Array.getElem?_eq_getElem hk, fun e he hb => ?_⟩
          have hs := List.all_eq_true.1 h1 k (List.mem_range.2 u1)
          rw [Array.getElem?_eq_getElem hk] at hs
          have := Array.all_eq_true_iff_forall_mem.1 hs e he
          rw [hb] at this
          have hlt : e.on < k := by simpa using this
          refine hg.li e.on (by omega) fun o' v' hm => ?_
          rcases List.mem_cons.1 hm with hm | hm
          · injection hm with hm; omega
          · have := (List.pairwise_cons.1 hg.sorted).1 _ hm
            simp at this
            omega
        rw [h0] at hmem
        cases hmem
    · obtain ⟨r1, r2, r3⟩ := mem_ready' hi
      have hne : ∃ k o v, (k, o, v) ∈ pend := by
        cases pend with
        | nil => simp at hp
        | cons x pend => exact ⟨x.1, x.2.1, x.2.2, List.mem_cons_self⟩
      -- it is one of those that wait
      have hiq : i < q := by
        refine Classical.byContradiction fun hge => ?_
        have hqs : q < ops.size := by omega
        by_cases hiq' : i = q
        · subst hiq'
          have hall : ∀ (d k : Nat), k < i → i - k = d → listed.getD k false = true := by
            intro d
            induction d using Nat.strongRecOn with
            | _ d ihd =>
              intro k hk hd
              have hs : ((List.range i).all fun k => (List.range (i + 1)).any fun m => decide (k < m) && bindsOn ops m k) = true := by
                unfold chkS2 at h2
                rw [Bool.or_eq_true] at h2
                rcases h2 with h2 | h2
                · have := beq_iff_eq.1 h2; omega
                · exact h2
              obtain ⟨m', hm1, hm2⟩ := List.any_eq_true.1 (List.all_eq_true.1 hs k (List.mem_range.2 hk))
              rw [Bool.and_eq_true, decide_eq_true_eq] at hm2
              have hm1' := List.mem_range.1 hm1
              by_cases hmi : m' = i
              · subst hmi; exact r3 k hm2.2
              · exact hg.cl m' (by omega) (ihd (i - m') (by omega) m' (by omega) rfl) k hm2.2
          obtain ⟨k, o, v, hk⟩ := hne
          obtain ⟨u1, u2, u3⟩ := hg.un k o v hk
          have := getD_ft (hall _ k u1 rfl)
          rw [u2] at this
          cases this
        · have hnr : i ∉ Region.ready .any ops (upTo ops.size q) := by rw [h4 hqs]; simpa using hiq'
          apply hnr
          refine mem_ready.2 ⟨?_, ops[i], Array.getElem?_eq_getElem r1, fun e he hb => ?_⟩
          · simp [upTo, r1]; omega
          · have hl := r3 e.on ((bindsOn_iff (Array.getElem?_eq_getElem r1)).2 ⟨e, he, hb, rfl⟩)
            have hlt : e.on < q := by
              refine Classical.byContradiction fun hnl => ?_
              by_cases hs : e.on < ops.size
              · have := hg.tl e.on (by omega) hs
                have := getD_ft hl
                simp_all
              · have : listed.getD e.on false = false := by simp [Array.getElem?_eq_none (show listed.size ≤ e.on by rw [hg.size]; omega)]
                rw [this] at hl; cases hl
            simp [upTo, show e.on < ops.size by omega, hlt]
      have hin : ∃ o v, (i, o, v) ∈ pend := by
        apply Classical.byContradiction
        intro hno
        have := hg.li i hiq fun o v hm => hno ⟨o, v, hm⟩
        have := getD_ft this
        rw [r2] at this
        cases this
      obtain ⟨o', v, hin⟩ := hin
      obtain ⟨pre, post, rfl⟩ := List.append_of_mem hin
      have hsort := List.pairwise_append.1 hg.sorted
      have hap : ∀ y ∈ pre, ap y.2.1 o' = true := by
        intro y hy
        obtain ⟨k, o, u⟩ := y
        have hlt : k < i := hsort.2.2 _ hy _ List.mem_cons_self
        obtain ⟨u1, u2, u3⟩ := hg.un k o u (List.mem_append_left _ hy)
        obtain ⟨_, _, u4⟩ := hg.un i o' v (by simp)
        have hs := List.all_eq_true.1 (List.all_eq_true.1 h3 i (List.mem_range.2 hiq)) k (List.mem_range.2 hlt)
        rw [Bool.or_eq_true] at hs
        rcases hs with hs | hs
        · have := getD_ft (r3 k hs)
          rw [u2] at this
          cases this
        · unfold apAt at hs
          rw [u3, u4] at hs
          exact hs
      obtain ⟨p1, p2, p3, p4, p5⟩ := pull pre post σ hap hch
      obtain ⟨_, _, u4⟩ := hg.un i o' v (by simp)
      have ho : ops.toList[i]? = some ops[i] := by simp [r1]
      refine wpOp_one (o := ops[i]) (by simp [r1]) (Y.run h (hget i _ _ ho u4) p3 fun G' a' w' k1 k2 => ?_)
      exact ih (pre ++ post) (by simp at hp ⊢; omega) _ (step σ o' v) (good_step hg hi) p4 (fun G'' a'' w'' z1 z2 => hT G'' a'' w'' (z1.eqv p5) z2) G' a' w' k1 (hpr.trans k2)

theorem draw_ok (hm : P.follows .mixedOrders = true) : DrawOK P n := by
  intro draw id ops iops q G σ a w K Q hc hd h hw hn
  cases draw with
  | false => exact wp_region_list (qwp_seq G w hn q ops.toList iops G σ a w hc h (Pres.refl G w) hw)
  | true =>
  have hd := hd rfl
  simp only [chkDr, Bool.and_eq_true, decide_eq_true_eq] at hd
  obtain ⟨hq, h1, h2, h3, h4⟩ := hd
  obtain ⟨hlen, hget⟩ := chkOpers_get _ _ hc
  have hsz : iops.length = ops.size := by rw [← hlen]; simp
  obtain ⟨vs, e1, e2, e3⟩ := qwp_pend q iops σ 0 (by omega) hw
  have hmk : (mk 0 iops vs).length = q := by
    have : ∀ (l : List IOper) (vs : List AV) (k : Nat), vs.length ≤ l.length → (mk k l vs).length = vs.length := by
      intro l
      induction l with
      | nil => intro vs k hl; cases vs with
        | nil => rfl
        | cons => simp at hl
      | cons o l ih => intro vs k hl; cases vs with
        | nil => rfl
        | cons v vs => simp [mk, ih vs (k + 1) (by simpa using hl)]
    rw [this iops vs 0 (by omega), e1]
  refine wp_region_any hm ?_
  have hrq : q < ops.size → Region.ready .any ops (upTo ops.size q) = [q] := by
    intro hlt
    obtain ⟨d, hd⟩ : ∃ d, ops.size - q = d + 1 := ⟨ops.size - q - 1, by omega⟩
    rw [hd] at h4
    simp only [chkTail, Bool.and_eq_true, beq_iff_eq] at h4
    exact h4.1
  have hT : ∀ G' a' w', Inv G' n (fin σ (mk 0 iops vs)) a' w' → Pres G w G' w' → wpAny P .any ops Q (ops.size - q) (upTo ops.size q) a' w' := by
    intro G' a' w' z1 z2
    have hl : (iops.drop q).length = ops.size - q := by rw [List.length_drop]; omega
    have := tail_sound G w hc hn (iops.drop q) q (upTo ops.size q) G' _ a' w' rfl (by rw [hl]; exact h4) e3 z1 z2
    rwa [hl] at this
  have hgood : Good ops iops q (mk 0 iops vs) (Array.replicate ops.size false) := by
    have hrep : ∀ k b, k < ops.size → (Array.replicate ops.size false).getD k b = false := fun k b hk => by simp [hk]
    refine ⟨by simp, fun k o v hk => ?_, fun k hk hno => ?_, fun j _ hj => hrep j _ hj, fun m hm hl i hi => ?_, mk_sorted iops vs 0⟩
    · obtain ⟨j, j1, j2, j3⟩ := mk_mem iops vs 0 k o v hk
      have : k = j := by omega
      subst this
      exact ⟨by omega, hrep k _ (by omega), j3⟩
    · obtain ⟨o, v, hh⟩ := mk_has iops vs 0 k (by omega) (by omega)
      rw [Nat.zero_add] at hh
      exact absurd hh (hno o v)
    · rw [hrep m _ (by omega)] at hl; cases hl
  have := run_pend (P := P) (n := n) (Q := Q) G w (ops.size - q) hc hq h1 h2 h3 hrq q (mk 0 iops vs) hmk _ σ hgood e2 hT G a { w with drawn := w.drawn + 1 } h.drew (Pres.drew G w)
  rwa [show q + (ops.size - q) = ops.size by omega] at this
end
end Go.AB
