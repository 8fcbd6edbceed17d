/- The law FileDocs returns true for every input; each argument reads behind the call as it read before. No condition. -/
import Derived.Test.YtemfmoalahmbkaaGreatFD5
import Derived.Test.YtemfmoalahmbkaaGreatFD4
import Derived.ProofKit
import Derived.OpenShut
import Derived.ChangeCalls
import Derived.Test.YtemfmoalahmbkaaGreatRows
import Derived.JoinedCond
set_option linter.unusedSimpArgs false
set_option linter.unusedVariables false
section
set_option maxRecDepth 4000
namespace Go.AB
open Go
attribute [-go_sem] Nat.add_zero ge_0 part_zero
def ir_Source_Read : IC :=
 (.seq (.reg none [i1 6 (.mov true (.c (.sl true 1 0 []))),
 i1 7 (.mov false (.c (.bool false)))] [0, 1, 2])
 (.seq (.seq (.reg none [mv 13 0,
 i1 14 (.call 74 [(.t 13)]),
 i1 15 (.un .not (.t 14)),
 mv 16 15,
 mvg 17 1 16 false,
 i1g 18 16 false (.bin .lss (.t 17) (.c (.int .i64 0))),
 i1 19 (.pick (.t 16) (.c (.bool true)) (.t 18)),
 mv 20 19,
 mvg 21 1 20 false,
 mvg 22 0 20 false,
 i1g 23 20 false (.nilCheck (.t 22)),
 i1g 24 20 false (.fieldAddr 1 (.t 23)),
 i1g 25 20 false (.load 1 false (.t 24)),
 i1g 26 20 false (.bin .gtr (.t 21) (.t 25)),
 i1 27 (.pick (.t 20) (.c (.bool true)) (.t 26)),
 mv 28 27,
 mvg 29 2 28 false,
 i1g 30 28 false (.bin .lss (.t 29) (.c (.int .i64 0))),
 i1 31 (.pick (.t 28) (.c (.bool true)) (.t 30))] [0, 1, 2, 31])
 (.cond (.t 31) (.seq (.reg none [i1 6 (.mov true (.c (.sl true 1 0 []))),
 i1 7 (.mov false (.c (.bool false)))] [6, 7])
 .ret)
 .skip))
 (.seq (.reg none [mv 32 2,
 mv 33 0,
 i1 34 (.nilCheck (.t 33)),
 i1 35 (.fieldAddr 2 (.t 34)),
 mv 36 1,
 i1 37 (.call 75 [(.t 35), (.t 36)]),
 mv 38 1,
 i1 39 (.bin .sub (.t 37) (.t 38)),
 i1 40 (.minmax false [(.t 32), (.t 39)]),
 mv 8 40] [0, 1, 8])
 (.seq (.reg none [mv 41 8,
 i1 42 (.makeSl 1 1 [.int .u8 0] (.c (.int .i64 0)) (.t 41)),
 mt 9 42] [0, 1, 8, 9])
 (.seq (.block 0 (.loop [(0, false), (1, false), (8, false), (9, false)] (.seq (.seq (.reg none [mv 43 9,
 i1 44 (.len 0 (.t 43)),
 mv 45 8,
 i1 46 (.bin .lss (.t 44) (.t 45))] [0, 1, 8, 9, 46])
 (.cond (.t 46) .skip
 (.exit 0)))
 (.block 1 (.seq (.reg none [mv 47 1,
 mv 48 9,
 i1 49 (.len 0 (.t 48)),
 i1 50 (.bin .add (.t 47) (.t 49)),
 i1 51 (.bin .quo (.t 50) (.c (.int .i64 4096))),
 mv 52 1,
 mv 53 9,
 i1 54 (.len 0 (.t 53)),
 i1 55 (.bin .add (.t 52) (.t 54)),
 i1 56 (.bin .rem (.t 55) (.c (.int .i64 4096))),
 mv 10 51,
 mv 11 56] [0, 1, 8, 9, 10, 11])
 (.seq (.reg none [mv 57 0,
 i1 58 (.nilCheck (.t 57)),
 i1 59 (.fieldAddr 3 (.t 58)),
 i1 60 (.load 1 false (.t 59)),
 mv 61 10,
 i1 62 (.lookup (.int .i64) (.sl false 1 0 []) false (.t 60) (.t 61)),
 mv 63 11,
 i1 64 (.slice 1 (.t 62) (some (.t 63)) none none),
 mt 12 64] [0, 1, 8, 9, 12])
 (.reg none [mt 65 9,
 mv 66 12,
 mt 67 12,
 i1 68 (.len 0 (.t 67)),
 mv 69 8,
 mt 70 9,
 i1 71 (.len 0 (.t 70)),
 i1 72 (.bin .sub (.t 69) (.t 71)),
 i1 73 (.minmax false [(.t 68), (.t 72)]),
 i1 74 (.slice 1 (.t 66) none (some (.t 73)) none),
 i1 75 (.appendA 1 1 [.int .u8 0] (.t 65) (.t 74)),
 mt 9 75] [0, 1, 8, 9])))))))
 (.seq (.reg (some 11) [mv 76 9,
 mv 77 1,
 mv 78 8,
 i1 79 (.bin .add (.t 77) (.t 78)),
 mv 80 0,
 i1 81 (.nilCheck (.t 80)),
 i1 82 (.fieldAddr 1 (.t 81)),
 i1 83 (.load 1 false (.t 82)),
 i1 84 (.bin .eql (.t 79) (.t 83)),
 mv 6 76,
 mv 7 84] [6, 7])
 .ret))))))
def res_Source_Read : List IRes := [⟨6, true, none⟩, ⟨7, true, none⟩]
theorem is_Source_Read : fnIs Go.Proofs.Tryz.prog 89 85 res_Source_Read ir_Source_Read = true := by kernel_rfl
theorem app_rows {α : Type} [Enc α] {σ : St} {d : Option Nat} {K : St → Prop} {sz by' : Nat} {s : Store} {r : RowP} {l : List α} {z : α} {x : List α} (hσ : σ.s = rowS s r l) (h : RowOK s r l) (hz : sz = Enc.w α) (hx : 0 < x.length) (hr : (l.length + x.length) * by' ≤ room)
    (hK : ∀ s' r', Sub s s' → RowOK s' r' (l ++ x) → K ({ σ with s := rowS s' r' (l ++ x) }.put d (rowA r' (l.length + x.length)))) :
    appendAW sz by' (Enc.cells z) σ d K (rowA r l.length) (some (x.length, flat x)) := by
  subst hz
  have hcz : (Enc.cells z).length = Enc.w α := Enc.len z
  have hvz : views (Enc.cells z) = Enc.cells z := Enc.vw z
  have fresh : ∀ (s' : Store) (b' cap' : Nat), s' b' = none → l.length + x.length ≤ cap' → RowOK s' (some (b', cap', flat (List.replicate (cap' - (l.length + x.length)) z))) (l ++ x) := fun s' b' cap' hb hc => by
    refine ⟨hb, by omega, by simpa using hc, ?_, flat_views _⟩
    rw [List.length_append, flat_len, flat_len, List.length_replicate, List.length_append, ← Nat.add_mul]
    congr 1
    omega
  cases r with
  | none =>
    obtain rfl : l = [] := h
    show appendAW (Enc.w α) by' (Enc.cells z) σ d K (.arr 0 0 0 0) _
    refine appendAW_new hcz (olds := []) rfl (by simpa using hx) hr fun b' cap' hb' hc => ?_
    rw [List.nil_append, ← flat_rep]
    rw [hσ] at hb' ⊢
    have := hK s (some (b', cap', flat (List.replicate (cap' - (0 + x.length)) z))) (Sub.refl s) (fresh s b' cap' hb' hc)
    exact this
  | some y =>
    obtain ⟨b, cap, sp⟩ := y
    obtain ⟨h1, h2, h3, h4, h5⟩ := h
    have hs : σ.s b = some (.cells (flat l ++ sp)) := by rw [hσ]; exact set_at
    show appendAW (Enc.w α) by' (Enc.cells z) σ d K (.arr b 0 l.length cap) _
    by_cases hc : l.length + x.length ≤ cap
    · refine appendAW_in hcz hs (by rw [h4, Nat.zero_add]; exact Nat.le_refl _) hc ?_
      have hsp : x.length * Enc.w α ≤ sp.length := by
        rw [List.length_append, flat_len] at h4
        have : (l.length + x.length) * Enc.w α ≤ cap * Enc.w α := Nat.mul_le_mul_right _ hc
        rw [Nat.add_mul] at this
        simp; omega
      have st := row_room l x sp (Enc.w α) rfl hsp
      rw [Nat.zero_add, st]
      have e : σ.s.set b (.cells (flat (l ++ x) ++ sp.drop (x.length * Enc.w α))) = rowS s (some (b, cap, sp.drop (x.length * Enc.w α))) (l ++ x) := by
        rw [hσ]
        show (s.set b _).set b _ = s.set b _
        exact set_set ..
      rw [e]
      refine hK s _ (Sub.refl s) ⟨h1, h2, by simpa using hc, ?_, ?_⟩
      · rw [List.length_append, flat_len] at h4 ⊢
        rw [List.length_drop, List.length_append, Nat.add_mul]
        omega
      · unfold views at h5 ⊢
        rw [List.map_drop, h5]
    · refine appendAW_new hcz (oldsV_arr hs (by
        rw [Nat.zero_add, h4]; exact Nat.mul_le_mul_right _ h3)) (by omega) hr fun b' cap' hb' hc' => ?_
      have ho : views (AB.sub (flat l ++ sp) 0 (l.length * Enc.w α)) = flat l := by
        have := row_sub l sp (Enc.w α) 0 l.length rfl (by omega)
        rw [Nat.zero_mul] at this
        rw [this, List.drop_zero, List.take_length, flat_views]
      rw [ho, ← flat_rep, ← flat_append]
      rw [hσ] at hb' ⊢
      have hb0 : (s.set b (.cells (flat l ++ sp))) b' = none := hb'
      exact hK (s.set b (.cells (flat l ++ sp))) (some (b', cap', flat (List.replicate (cap' - (l.length + x.length)) z))) ((Sub.refl s).set h1) (fresh _ b' cap' hb0 hc')
def readB (m : Blk) (at_ n : Int) : List UInt8 → Option (List UInt8 ⊕ List UInt8) := fun out =>
  if decide ((out.length : Int) < n) then
    need ((m (w64 ((w64 (at_ + out.length)).tdiv 4096))).isSome = true) <|
    some (.inl (out ++ (((m (w64 ((w64 (at_ + out.length)).tdiv 4096))).getD []).drop ((w64 (at_ + out.length)).tmod 4096).toNat).take (min (4096 - ((w64 (at_ + out.length)).tmod 4096).toNat) (n - out.length).toNat)))
  else some (.inr out)
def Source_Read (g : SrcG) (at_ most : Int) : Option (List UInt8 × Bool) :=
  if (decide (at_ < 0) || decide (at_ > g.total)) || decide (most < 0) then some ([], false)
  else
    bnd (Set_Upto g.known at_) fun u =>
    need (at_ ≤ u ∧ u ≤ g.total) <|
    bnd (iter (readB g.blk at_ (min most (u - at_))) []) fun out =>
    some (out, w64 (at_ + min most (u - at_)) == g.total)
theorem look_row {es : List (AV × AV)} {n : Int} {b : Nat} (h : KI es) (e : findK (.int .i64 n) es = some (.arr b 0 4096 4096)) : lookupO (.int .i64) (.sl false 1 0 []) false (.int .i64 n) (some (.map es)) = .prt True (.arr b 0 4096 4096) := by
  show ckL false (keyOK (.int .i64) (.int .i64 n) = true ∧ keysOK (.int .i64) es = true) (lookV (.sl false 1 0 []) false (findK (.int .i64 n) es)) = _
  rw [e, h.keys]
  show PR.prt (true = true ∧ true = true) _ = _
  simp [lookV, okV, view]
theorem Source_Read_fn {s0 s : Store} {B : Nat} {g : SrcG} {a most : Int} {Q : List AV → Store → Prop} (h : SrcAt s0 s B g) (ht : g.total ≤ 2147483647) : ok (Source_Read g a most) (fun x => (x.1 = [] → x.2 = false → Q [.sl true 1 0 [], .bool false] s) ∧ (x.1 = [] → ∀ b, s b = none → Q [.arr b 0 0 0, .bool x.2] (s.set b (.cells []))) ∧ ∀ r s', Sub s s' → RowOK s' r x.1 → Q [rowA r x.1.length, .bool x.2] (rowS s' r x.1)) → FN Go.Proofs.Tryz.prog 89 [.ref B 0, .int .i64 a, .int .i64 most] s Q := by
  intro hh
  refine FN.weak (FN.of (draw_ok mix) is_Source_Read rfl (Nat.le_of_ble_eq_true rfl) ?_)
  rw [ir_Source_Read, res_Source_Read]
  simp -implicitDefEqProofs only [go_sem, start, startE, resVs, resV, resC, allV, retK, Nat.reduceBEq, Nat.reduceAdd, Nat.reduceMul, Nat.reduceLeDiff, Nat.reduceEqDiff, Nat.reduceBNe, Nat.ble_eq, UInt8.reduceToNat, UInt32.reduceToNat]
  refine Source_is_fn h ?_
  obtain ⟨cs, hs, hset⟩ := h.setAt
  obtain ⟨q1, q2, M, es, q3, q4, q5, q6, q7, q8⟩ := id h
  revert hh
  rw [Source_Read]
  simp -implicitDefEqProofs only [go_sem, start, startE, resVs, resV, resC, allV, retK, Nat.reduceBEq, Nat.reduceAdd, Nat.reduceMul, Nat.reduceLeDiff, Nat.reduceEqDiff, Nat.reduceBNe, Nat.ble_eq, UInt8.reduceToNat, UInt32.reduceToNat, q3]
  rintro ⟨w1, w2⟩
  refine ⟨fun hc => ⟨s, Sub.refl s, (w1 hc).1 trivial trivial⟩, fun hc => ?_⟩
  obtain ⟨u, hu, ⟨hu1, hu2⟩, hh⟩ := w2 hc
  clear w1 w2
  have hc1 : 0 ≤ a ∧ a ≤ g.total ∧ 0 ≤ most := by simp at hc; omega
  refine Set_Upto_fn hs ⟨u, hu, ?_⟩
  simp -implicitDefEqProofs only [go_sem, start, startE, resVs, resV, resC, allV, retK, Nat.reduceBEq, Nat.reduceAdd, Nat.reduceMul, Nat.reduceLeDiff, Nat.reduceEqDiff, Nat.reduceBNe, Nat.ble_eq, UInt8.reduceToNat, UInt32.reduceToNat, q3]
  rw [w64_id (n := u - a) (by omega) (by omega)]
  generalize hn : min most (u - a) = n at hh ⊢
  have hn0 : 0 ≤ n ∧ a + n ≤ g.total := by omega
  revert hh
  refine fun hh => ⟨Int.le_refl 0, hn0.1, by unfold room; omega, fun b hb => ?_⟩
  by_cases hz : n = 0
  · subst hz
    revert hh
    refine iter_toR (fun out τ => out = [] ∧ τ = ⟨[(0, .ref B 0), (1, .int .i64 a), (8, .int .i64 0), (9, .arr b 0 0 0)], [], s.set b (.cells [])⟩) ⟨rfl, rfl⟩ ?_
    rintro J out τ ⟨rfl, rfl⟩
    have nB : B ≠ b := fun e => by rw [← e, q3] at hb; cases hb
    have p3 : (s.set b (.cells [])) B = _ := (set_ne nB).trans q3
    rw [readB]
    simp -implicitDefEqProofs only [go_sem, start, startE, resVs, resV, resC, allV, retK, Nat.reduceBEq, Nat.reduceAdd, Nat.reduceMul, Nat.reduceLeDiff, Nat.reduceEqDiff, Nat.reduceBNe, Nat.ble_eq, UInt8.reduceToNat, UInt32.reduceToNat, p3]
    rintro ⟨_, w2⟩
    exact ⟨fun h => (by simp at h), fun h => ⟨_, Sub.refl _, (w2 h).2.1 trivial b hb⟩⟩
  revert hh
  refine iter_toR (fun out τ => (out.length : Int) ≤ n ∧ ∃ (s' : Store) (r : RowP), τ = ⟨[(0, .ref B 0), (1, .int .i64 a), (8, .int .i64 n), (9, rowA r out.length)], [], rowS s' r out⟩ ∧ Sub s s' ∧ RowOK s' r out) ⟨by simp; omega, s, some (b, n.toNat, flat (List.replicate n.toNat (0 : UInt8))), rfl, Sub.refl s, (show RowOK s (some (b, n.toNat, flat (List.replicate n.toNat (0 : UInt8)))) ([] : List UInt8) from ⟨hb, by omega, by simp, by show ((flat ([] : List UInt8)) ++ flat (List.replicate n.toNat (0 : UInt8))).length = _; rw [flat_nil, List.nil_append, flat_len, List.length_replicate], flat_views _⟩)⟩ ?_
  rintro J out τ ⟨hl, s', r, rfl, hsub, hok⟩
  have p3 := rowS_get hok (hsub _ _ q3)
  have p5 := rowS_get hok (hsub _ _ q5)
  rw [readB]
  simp -implicitDefEqProofs only [go_sem, start, startE, resVs, resV, resC, allV, retK, Nat.reduceBEq, Nat.reduceAdd, Nat.reduceMul, Nat.reduceLeDiff, Nat.reduceEqDiff, Nat.reduceBNe, Nat.ble_eq, UInt8.reduceToNat, UInt32.reduceToNat, p3, p5]
  rintro ⟨w1, w2⟩
  refine ⟨fun hc => ⟨by decide, by decide, ?_⟩, fun hc => ?_⟩
  · obtain ⟨hsome, w1⟩ := w1 hc
    have hc' : (out.length : Int) < n := by simpa using hc
    have wA : w64 (a + out.length) = a + out.length := w64_id (by omega) (by omega)
    rw [wA] at hsome w1 ⊢
    have hm : 0 ≤ (a + (out.length : Int)).tmod 4096 := Int.tmod_nonneg _ (by omega)
    have hm2 : (a + (out.length : Int)).tmod 4096 < 4096 := Int.tmod_lt_of_pos _ (by decide)
    have q7' := q7 (w64 ((a + (out.length : Int)).tdiv 4096))
    cases hmk : g.blk (w64 ((a + (out.length : Int)).tdiv 4096)) with
    | none => rw [hmk] at hsome; cases hsome
    | some c =>
      rw [hmk] at q7' w1
      obtain ⟨c1, b', c2, c3, c4⟩ := q7'
      rw [look_row q6 c2]
      simp -implicitDefEqProofs only [go_sem, start, startE, resVs, resV, resC, allV, retK, Nat.reduceBEq, Nat.reduceAdd, Nat.reduceMul, Nat.reduceLeDiff, Nat.reduceEqDiff, Nat.reduceBNe, Nat.ble_eq, UInt8.reduceToNat, UInt32.reduceToNat]
      rw [w64_id (n := n - out.length) (by omega) (by omega)]
      generalize hT : (a + (out.length : Int)).tmod 4096 = T at hm hm2 w1 ⊢
      refine ⟨⟨hm, by omega, by omega⟩, ⟨by omega, by omega, by omega⟩, ?_⟩
      have hnb : rowS s' r out b' = some (.cells (flat c)) := rowS_get hok (hsub _ _ c4)
      have hf : (flat c).length = 4096 := by rw [flat_len, c1]; rfl
      have e1 : (min ((4096 - T).toNat : Int) (n - out.length)).toNat = min (4096 - T.toNat) (n - out.length).toNat := by omega
      rw [e1, arrOff_o (by omega), srcV_arr hnb (by omega)]
      have hsub2 := flat_sub c 1 T.toNat (min (4096 - T.toNat) (n - out.length).toNat) rfl
      rw [Nat.mul_one] at hsub2
      rw [hsub2, flat_views]
      have hxl : ((c.drop T.toNat).take (min (4096 - T.toNat) (n - out.length).toNat)).length = min (4096 - T.toNat) (n - out.length).toNat := by
        rw [List.length_take, List.length_drop]; omega
      have happ := app_rows (σ := ?_) (d := ?_) (K := ?_) (by' := 1) (z := (0 : UInt8)) (x := (c.drop T.toNat).take (min (4096 - T.toNat) (n - out.length).toNat)) (s := s') (r := r) (l := out) (sz := 1) ?_ hok rfl (by rw [hxl]; omega) (by rw [hxl]; unfold room; omega) ?_
      · rw [hxl] at happ
        exact happ
      · rfl
      · intro s2 r' g1 g2
        simp -implicitDefEqProofs only [go_sem, start, startE, resVs, resV, resC, allV, retK, Nat.reduceBEq, Nat.reduceAdd, Nat.reduceMul, Nat.reduceLeDiff, Nat.reduceEqDiff, Nat.reduceBNe, Nat.ble_eq, UInt8.reduceToNat, UInt32.reduceToNat]
        refine w1 _ ⟨?_, s2, r', rfl, fun b o hb => g1 b o (hsub b o hb), g2⟩
        have hxl' : (List.take (min (4096 - T.toNat) (n - out.length).toNat) (List.drop T.toNat ((some c).getD []))).length = min (4096 - T.toNat) (n - out.length).toNat := hxl
        rw [hxl']
        omega
  · have w2 := (w2 hc).2.2 r s' hsub hok
    exact ⟨_, Sub.refl _, w2⟩
theorem res2_sl {G : Gh} {w : World} {s s2 : Store} {n sz : Nat} {cs : List AV} {x : Bool} {v : Value} {r : List AV} (hg : GoodW G w) (hs : StoreR G w s) (hl2 : cs.length = n * sz) (hvw : views cs = cs)
    (h : (∃ b cap sp, r = [.arr b 0 n cap, .bool x] ∧ s b = some (.cells (cs ++ sp)) ∧ 0 < cap ∧ n ≤ cap ∧ (cs ++ sp).length = cap * sz ∧ Sub s2 (s.del b)) ∨ (n = 0 ∧ cs = [] ∧ Sub s2 s ∧ ∃ b, r = [.arr b 0 0 0, .bool x])) (hr : ResR G w r v) :
    ∃ G2, GhStep G G2 ∧ GoodW G2 w ∧ StoreR G2 w s2 ∧ ResR G2 w [.sl true sz n cs, .bool x] v := by
  have two : ∀ {a : AV} {v : Value}, ResR G w [a, .bool x] v → ∃ y0 : Value, v = .tuple #[y0, .bool x] ∧ VR w G.R a y0 ∧ OwnR G w (.res 0) a y0 := by
    intro a v hr
    obtain ⟨ys, rfl, hz, hc⟩ := hr
    have h2 : ys.size = 2 := hz
    have e0 := hc 0 a ys[0] rfl (by simp)
    have e1 := hc 1 (.bool x) ys[1] rfl (by simp)
    have e2 := VR.inv_bool e1.1
    refine ⟨ys[0], ?_, e0.1, e0.2⟩
    congr 1
    apply Array.ext
    · simp [h2]
    · intro i h3 h4
      match i, h3 with
      | 0, _ => rfl
      | 1, _ => exact e2
      | i + 2, h3 => omega
  have fin : ∀ {G2 : Gh} {y0 : Value}, ResR G2 w [.sl true sz n cs] y0 → ResR G2 w [.sl true sz n cs, .bool x] (.tuple #[y0, .bool x]) := by
    intro G2 y0 h
    refine ⟨_, rfl, rfl, fun j a y hj hy => ?_⟩
    match j, hj with
    | 0, hj => cases hj; cases hy; exact h
    | 1, hj => cases hj; cases hy; exact ⟨.bool _, trivial⟩
  rcases h with ⟨b, cap, sp, rfl, hb, hc, hn, hl, hsub⟩ | ⟨rfl, rfl, hsub, b, rfl⟩
  · obtain ⟨y0, rfl, k0, k0'⟩ := two hr
    obtain ⟨G2, k1, k2, k3, k4⟩ := pack_sl (v := y0) hs hg hb hc hn hl hl2 hvw ⟨k0, k0'⟩
    exact ⟨G2, k1, k2, k3.sub hsub, fin k4⟩
  · obtain ⟨y0, rfl, k0, k0'⟩ := two hr
    exact ⟨G, GhStep.refl G, hg, hs.sub hsub, fin (pack_sl0 (b := b) ⟨k0, k0'⟩)⟩
theorem Source_Read_sl {s0 s : Store} {B : Nat} {g : SrcG} {a most : Int} {r : List UInt8 × Bool} (h : SrcAt s0 s B g) (ht : g.total ≤ 2147483647) (hr : Source_Read g a most = some r) : FE Go.Proofs.Tryz.prog 89 [.ref B 0, .int .i64 a, .int .i64 most] s [.sl true 1 r.1.length (flat r.1), .bool r.2] s := by
  refine FN.conv (Source_Read_fn (Q := fun rs t => rs = [.sl true 1 r.1.length (flat r.1), .bool r.2] ∧ t = s ∨ ((∃ b cap sp, rs = [.arr b 0 r.1.length cap, .bool r.2] ∧ t b = some (.cells (flat r.1 ++ sp)) ∧ 0 < cap ∧ r.1.length ≤ cap ∧ (flat r.1 ++ sp).length = cap * 1 ∧ Sub s (t.del b)) ∨ (r.1.length = 0 ∧ flat r.1 = [] ∧ Sub s t ∧ ∃ b, rs = [.arr b 0 0 0, .bool r.2]))) h ht ⟨r, hr, fun e1 e2 => ?_, fun e1 b hb => ?_, fun r' s' h1 h2 => ?_⟩) fun rs t hq G w v hg hs hv => ?_
  · rw [e1, e2]; exact .inl ⟨rfl, rfl⟩
  · rw [e1]; exact .inr (.inr ⟨rfl, rfl, (Sub.refl s).set hb, b, rfl⟩)
  · cases r' with
    | none =>
      have e : r.1 = [] := h2
      rw [e]; exact .inr (.inr ⟨rfl, rfl, h1, 0, rfl⟩)
    | some x =>
      obtain ⟨b, cap, sp⟩ := x
      obtain ⟨k1, k2, k3, k4, k5⟩ := h2
      refine .inr (.inl ⟨b, cap, sp, rfl, set_at, k2, k3, k4, ?_⟩)
      show Sub s ((s'.set b _).del b)
      rw [del_set k1]; exact h1
  · rcases hq with ⟨rfl, rfl⟩ | hq
    · exact ⟨_, _, G, ⟨rfl, rfl⟩, GhStep.refl G, hg, hs, hv⟩
    · obtain ⟨G2, k1, k2, k3, k4⟩ := res2_sl hg hs (by rw [flat_len]; rfl) (flat_views _) hq hv
      exact ⟨_, _, G2, ⟨rfl, rfl⟩, k1, k2, k3, k4⟩
end Go.AB
end

section
set_option maxRecDepth 4000
namespace Go.AB
open Go
attribute [-go_sem] Nat.add_zero ge_0 part_zero
def ir_file_parse : IC :=
 (.seq (.reg none [i1 4 (.mov false (.c (.int .i64 0))),
 i1 5 (.allocL [.int .i64 0, .int .i64 0, .str [], .sl true 4 0 [], .bool false, .str []]),
 i1 6 (.mov false (.c (.int .i64 0))),
 i1 7 (.mov false (.c (.int .i64 0)))] [0, 1, 5])
 (.seq (.reg none [i1 8 (.mov false (.c (.int .i64 4096)))] [0, 1, 5, 8])
 (.block 0 (.loop [(0, false), (1, false), (5, false), (8, false)] (.seq (.block 1 (.seq (.reg none [mv 18 0,
 mv 19 1,
 mv 20 8,
 i1 21 (.call 89 [(.t 18), (.t 19), (.t 20)]),
 i1 17 (.movT (.t 21)),
 i1 22 (.extract (.t 17) 0),
 i1 23 (.extract (.t 17) 1),
 mt 9 22,
 mv 10 23] [0, 1, 5, 8, 9, 10])
 (.seq (.reg none [mv 25 9,
 mv 26 10,
 i1 27 (.call 121 [(.t 25), (.c (.int .i64 0)), (.t 26)]),
 i1 24 (.movT (.t 27)),
 i1 28 (.extract (.t 24) 0),
 i1 29 (.extract (.t 24) 1),
 i1 30 (.extract (.t 24) 2),
 i1 31 (.extract (.t 24) 3),
 i1 12 (.allocL [.int .i64 0, .int .i64 0, .str [], .sl true 4 0 [], .bool false, .str []]),
 mv 11 28,
 i0 (.store 6 (.t 12) (.t 29)),
 mv 13 30,
 mv 14 31] [0, 1, 5, 8, 9, 11, 12, 14])
 (.block 2 (.seq (.reg none [mv 36 14,
 i1 37 (.bin .eql (.t 36) (.c (.int .i64 6))),
 mv 38 37,
 mvg 39 9 38 true,
 i1g 40 38 true (.len 0 (.t 39)),
 mvg 41 8 38 true,
 i1g 42 38 true (.bin .eql (.t 40) (.t 41)),
 i1 43 (.pick (.t 38) (.t 42) (.c (.bool false))),
 mv 35 43] [0, 1, 5, 8, 11, 12, 14, 35])
 (.cond (.t 35) .skip
 (.seq (.reg none [mv 45 14,
 i1 46 (.bin .eql (.t 45) (.c (.int .i64 6))),
 mv 44 46] [0, 1, 5, 11, 12, 14, 44])
 (.cond (.t 44) (.seq (.regT [5] 9 [i1 47 (.load 6 true (.t 12)),
 mv 48 0,
 mv 49 1,
 i1 50 (.call 25 [(.t 48), (.t 49)]),
 mv 51 14,
 i1 4 (.mov false (.c (.int .i64 0))),
 i0 (.store 6 (.t 5) (.t 47)),
 mv 6 50,
 mv 7 51] [4, 5, 6, 7])
 .ret)
 (.seq (.reg none [mv 53 14,
 i1 54 (.bin .neq (.t 53) (.c (.int .i64 0))),
 mv 52 54] [5, 11, 12, 14, 52])
 (.cond (.t 52) (.seq (.reg (some 2) [i1 55 (.load 6 true (.t 12)),
 i1 4 (.mov false (.c (.int .i64 0))),
 i0 (.store 6 (.t 5) (.t 55)),
 i1 6 (.mov false (.c (.int .i64 0))),
 i1 7 (.mov false (.c (.int .i64 18)))] [4, 5, 6, 7])
 .ret)
 (.seq (.regT [5] 7 [mv 32 11,
 i1 33 (.load 6 true (.t 12)),
 mv 34 14,
 mv 4 32,
 i0 (.store 6 (.t 5) (.t 33)),
 i1 6 (.mov false (.c (.int .i64 0))),
 mv 7 34] [4, 5, 6, 7])
 .ret)))))))))))
 (.reg none [mv 15 8,
 i1 16 (.bin .mul (.t 15) (.c (.int .i64 2))),
 mv 8 16] [0, 1, 5, 8]))))))
def res_file_parse : List IRes := [⟨4, true, none⟩, ⟨5, false, some (6, true)⟩, ⟨6, true, none⟩, ⟨7, true, none⟩]
theorem is_file_parse : fnIs Go.Proofs.Tryz.prog 66 56 res_file_parse ir_file_parse = true := by kernel_rfl
abbrev OBJ (x : api_Object) : AV := .agg [.int .i64 x.V.Kind, .int .i64 x.V.N, .str x.V.S.b, .sl false 4 x.V.L.length (flat x.V.L), .bool x.Stream, .str x.Data.b]
def parseB (g : SrcG) (a : Int) : Int → Option (Int ⊕ (Int × api_Object × Int × Int)) := fun most =>
  bnd (Source_Read g a most) fun x =>
  bnd (frame_Parse x.1 0 x.2) fun y =>
  if (y.2.2.2 == 6) && ((x.1.length : Int) == most) then some (.inl (w64 (most * 2)))
  else if y.2.2.2 == 6 then bnd (Set_Upto g.known (max 0 a)) fun u => some (.inr (0, y.2.1, min g.total u, y.2.2.2))
  else if y.2.2.2 != 0 then some (.inr (0, y.2.1, 0, 18))
  else some (.inr (y.1, y.2.1, 0, y.2.2.2))
def file_parse (g : SrcG) (a : Int) : Option (Int × api_Object × Int × Int) := iter (parseB g a) 4096
theorem file_parse_fn {s0 s : Store} {B : Nat} {g : SrcG} {a : Int} {Q : List AV → Store → Prop} (h : SrcAt s0 s B g) (ht : g.total ≤ 2147483647) : ok (file_parse g a) (fun r => Q [.int .i64 r.1, OBJ r.2.1, .int .i64 r.2.2.1, .int .i64 r.2.2.2] s) → FN Go.Proofs.Tryz.prog 66 [.ref B 0, .int .i64 a] s Q := by
  intro hh
  refine FN.weak (FN.of (draw_ok mix) is_file_parse rfl (Nat.le_of_ble_eq_true rfl) ?_)
  rw [ir_file_parse, res_file_parse]
  revert hh
  rw [file_parse]
  simp -implicitDefEqProofs only [go_sem, start, startE, resVs, resV, resC, allV, retK, Nat.reduceBEq, Nat.reduceAdd, Nat.reduceMul, Nat.reduceLeDiff, Nat.reduceEqDiff, Nat.reduceBNe, Nat.ble_eq, UInt8.reduceToNat, UInt32.reduceToNat]
  refine iter_toR (fun most τ => τ = ⟨[(0, .ref B 0), (1, .int .i64 a), (5, .loc [.int .i64 0, .int .i64 0, .str [], .sl true 4 0 [], .bool false, .str []]), (8, .int .i64 most)], [], s⟩) rfl ?_
  rintro J most τ rfl
  rw [parseB]
  simp -implicitDefEqProofs only [go_sem, start, startE, resVs, resV, resC, allV, retK, Nat.reduceBEq, Nat.reduceAdd, Nat.reduceMul, Nat.reduceLeDiff, Nat.reduceEqDiff, Nat.reduceBNe, Nat.ble_eq, UInt8.reduceToNat, UInt32.reduceToNat]
  rintro ⟨x, hx, hh⟩
  refine FE.app (Source_Read_sl h ht hx) ?_
  refine ⟨rfl, ?_⟩
  simp -implicitDefEqProofs only [go_sem, start, startE, resVs, resV, resC, allV, retK, Nat.reduceBEq, Nat.reduceAdd, Nat.reduceMul, Nat.reduceLeDiff, Nat.reduceEqDiff, Nat.reduceBNe, Nat.ble_eq, UInt8.reduceToNat, UInt32.reduceToNat]
  obtain ⟨y, hy, hh⟩ := hh
  refine FE.app (frame_Parse_fe hy) ?_
  refine ⟨rfl, ?_⟩
  revert hh
  simp -implicitDefEqProofs only [go_sem, start, startE, resVs, resV, resC, allV, retK, Nat.reduceBEq, Nat.reduceAdd, Nat.reduceMul, Nat.reduceLeDiff, Nat.reduceEqDiff, Nat.reduceBNe, Nat.ble_eq, UInt8.reduceToNat, UInt32.reduceToNat]
  rintro ⟨c1, c2⟩
  refine ⟨fun hc => c1 hc _ rfl, fun hc => ⟨fun hd => ?_, fun hd => ⟨fun he => ⟨s, Sub.refl s, ((c2 hc).2 hd).1 he⟩, fun he => ⟨s, Sub.refl s, ((c2 hc).2 hd).2 he⟩⟩⟩⟩
  obtain ⟨u, hu, hq⟩ := (c2 hc).1 hd
  refine ⟨[.int .i64 (min g.total u)], rfl, Source_First_fn h ⟨u, hu, rfl, rfl⟩, ?_⟩
  simp -implicitDefEqProofs only [go_sem, start, startE, resVs, resV, resC, allV, retK, Nat.reduceBEq, Nat.reduceAdd, Nat.reduceMul, Nat.reduceLeDiff, Nat.reduceEqDiff, Nat.reduceBNe, Nat.ble_eq, UInt8.reduceToNat, UInt32.reduceToNat]
  trace_state
  exact ⟨s, Sub.refl s, hq⟩
end Go.AB
end

section
set_option maxRecDepth 4000
namespace Go.AB
open Go
attribute [-go_sem] xwp_cons xwpK_eq xalt_cons xalt_nil
structure chain_Table where
  Places : (List Int)
  Root : Int
instance : Enc chain_Table := ⟨2, fun x => [.sl false 1 x.Places.length (flat x.Places), .int .i64 x.Root], (chain_Table.mk [] 0), by decide, fun _ => rfl, fun _ => rfl⟩
@[go_sem] theorem cells_chain_Table (x : chain_Table) : Enc.cells x = [.sl false 1 x.Places.length (flat x.Places), .int .i64 x.Root] := rfl
@[go_sem] theorem w_chain_Table : Enc.w chain_Table = 2 := rfl
@[go_sem] theorem pad_chain_Table (l : List chain_Table) (i : Int) : pad [.sl false 1 0 [], .int .i64 0] (views (AB.sub (flat l) (i.toNat * 2) 2)) = [.sl false 1 ((ix l i).Places).length (flat ((ix l i).Places)), .int .i64 ((ix l i).Root)] := by
  rw [← cells_chain_Table]; exact flat_pad _ 2 l i (by rw [cells_chain_Table]; rfl) rfl
@[go_sem] theorem mk_chain_Table (x : chain_Table) : chain_Table.mk x.Places x.Root = x := by cases x; rfl
def chain_Find (t_0 : chain_Table) (n_1 : Int) : Option (Int × Bool) :=
  need ((!((decide (n_1 < 1)) || (decide (n_1 > (t_0.Places.length : Int))))) = true → 0 ≤ w64 (n_1 - 1) ∧ w64 (n_1 - 1) < t_0.Places.length) <|
  if ((decide (n_1 < 1)) || (decide (n_1 > (t_0.Places.length : Int)))) || (decide (ix t_0.Places (w64 (n_1 - 1)) < 0)) then
    some (0, false)
  else
    need (0 ≤ w64 (n_1 - 1) ∧ w64 (n_1 - 1) < t_0.Places.length) <|
    some (ix t_0.Places (w64 (n_1 - 1)), true)
def ir_chain_Find : IC :=
 (.seq (.reg none [i1 2 (.boxL 2 (.t 0)),
 i1 4 (.mov false (.c (.int .i64 0))),
 i1 5 (.mov false (.c (.bool false)))] [1, 2])
 (.seq (.seq (.reg none [mv 6 1,
 i1 7 (.bin .lss (.t 6) (.c (.int .i64 1))),
 mv 8 7,
 mvg 9 1 8 false,
 i1g 10 8 false (.fieldAddr 0 (.t 2)),
 i1g 11 8 false (.load 1 false (.t 10)),
 i1g 12 8 false (.len 0 (.t 11)),
 i1g 13 8 false (.bin .gtr (.t 9) (.t 12)),
 i1 14 (.pick (.t 8) (.c (.bool true)) (.t 13)),
 mv 15 14,
 i1g 16 15 false (.fieldAddr 0 (.t 2)),
 i1g 17 15 false (.load 1 false (.t 16)),
 mvg 18 1 15 false,
 i1g 19 15 false (.bin .sub (.t 18) (.c (.int .i64 1))),
 i1g 20 15 false (.indexAddr [.int .i64 0] (.t 17) (.t 19)),
 i1g 21 15 false (.load 1 false (.t 20)),
 i1g 22 15 false (.bin .lss (.t 21) (.c (.int .i64 0))),
 i1 23 (.pick (.t 15) (.c (.bool true)) (.t 22))] [1, 2, 23])
 (.cond (.t 23) (.seq (.reg none [i1 4 (.mov false (.c (.int .i64 0))),
 i1 5 (.mov false (.c (.bool false)))] [4, 5])
 .ret)
 .skip))
 (.seq (.reg none [i1 24 (.fieldAddr 0 (.t 2)),
 i1 25 (.load 1 false (.t 24)),
 mv 26 1,
 i1 27 (.bin .sub (.t 26) (.c (.int .i64 1))),
 i1 28 (.indexAddr [.int .i64 0] (.t 25) (.t 27)),
 i1 29 (.load 1 false (.t 28)),
 mv 4 29,
 i1 5 (.mov false (.c (.bool true)))] [4, 5])
 .ret)))
def res_chain_Find : List IRes := [⟨4, true, none⟩, ⟨5, true, none⟩]
theorem is_chain_Find : fnIs Go.Proofs.Tryz.prog 64 30 res_chain_Find ir_chain_Find = true := by kernel_rfl
theorem chain_Find_fn {t_0 n_1} {s : Store} {Q : List AV → Store → Prop}  : ok (chain_Find t_0 n_1) (fun r => Q [.int .i64 r.1, .bool r.2] s) → FN Go.Proofs.Tryz.prog 64 [.agg [.sl false 1 t_0.Places.length (flat t_0.Places), .int .i64 t_0.Root], .int .i64 n_1] s Q := by
  intro h
  refine FN.of (draw_ok mix) is_chain_Find rfl (Nat.le_of_ble_eq_true rfl) ?_
  revert h
  rw [ir_chain_Find, res_chain_Find, chain_Find]
  repeat' (first
    | with_reducible exact tt_to
    | with_reducible refine and_to ?_ ?_
    | with_reducible exact im_and
    | with_reducible refine im_to ?_
    | simp -implicitDefEqProofs only [go_sem, start, startE, resVs, resV, resC, allV, retK, Nat.reduceBEq, Nat.reduceAdd, Nat.reduceMul, Nat.reduceLeDiff, Nat.reduceEqDiff, Nat.reduceBNe, Nat.ble_eq, UInt8.reduceToNat, UInt32.reduceToNat])
theorem chain_Find_fe {t_0 n_1} {s : Store} {r : Int × Bool}  (h : chain_Find t_0 n_1 = some r) : FE Go.Proofs.Tryz.prog 64 [.agg [.sl false 1 t_0.Places.length (flat t_0.Places), .int .i64 t_0.Root], .int .i64 n_1] s [.int .i64 r.1, .bool r.2] s := chain_Find_fn  ⟨r, h, rfl, rfl⟩
end Go.AB
end

section
set_option maxRecDepth 4000
namespace Go.AB
open Go
attribute [-go_sem] Nat.add_zero ge_0 part_zero
def ir_file_is : IC :=
 (.seq (.reg none [i1 2 (.mov false (.c (.bool false)))] [0])
 (.seq (.reg none [mv 3 0,
 i1 4 (.eqP true (.t 3) (.c (.nilp))),
 mv 5 4,
 mvg 6 0 5 true,
 i1g 7 5 true (.nilCheck (.t 6)),
 i1g 8 5 true (.fieldAddr 2 (.t 7)),
 i1g 9 5 true (.load 1 false (.t 8)),
 i1g 10 5 true (.eqF true (.t 9)),
 i1 11 (.pick (.t 5) (.t 10) (.c (.bool false))),
 mv 2 11] [2])
 .ret))
def res_file_is : List IRes := [⟨2, true, none⟩]
theorem is_file_is : fnIs Go.Proofs.Tryz.prog 69 12 res_file_is ir_file_is = true := by kernel_rfl
def ir_file_Root : IC :=
 (.seq (.reg none [i1 2 (.mov false (.c (.int .i64 0)))] [0])
 (.seq (.seq (.reg none [mv 3 0,
 i1 4 (.call 69 [(.t 3)]),
 i1 5 (.un .not (.t 4))] [0, 5])
 (.cond (.t 5) (.seq (.reg none [i1 2 (.mov false (.c (.int .i64 0)))] [2])
 .ret)
 .skip))
 (.seq (.reg none [mv 6 0,
 i1 7 (.nilCheck (.t 6)),
 i1 8 (.fieldAddr 0 (.t 7)),
 i1 9 (.load 1 false (.t 8)),
 mv 2 9] [2])
 .ret)))
def res_file_Root : List IRes := [⟨2, true, none⟩]
theorem is_file_Root : fnIs Go.Proofs.Tryz.prog 23 10 res_file_Root ir_file_Root = true := by kernel_rfl
def ir_file_Count : IC :=
 (.seq (.reg none [i1 2 (.mov false (.c (.int .i64 0)))] [0])
 (.seq (.seq (.reg none [mv 3 0,
 i1 4 (.call 69 [(.t 3)]),
 i1 5 (.un .not (.t 4))] [0, 5])
 (.cond (.t 5) (.seq (.reg none [i1 2 (.mov false (.c (.int .i64 0)))] [2])
 .ret)
 .skip))
 (.seq (.reg none [mv 6 0,
 i1 7 (.nilCheck (.t 6)),
 i1 8 (.fieldAddr 1 (.t 7)),
 i1 9 (.load 1 false (.t 8)),
 mv 2 9] [2])
 .ret)))
def res_file_Count : List IRes := [⟨2, true, none⟩]
theorem is_file_Count : fnIs Go.Proofs.Tryz.prog 24 10 res_file_Count ir_file_Count = true := by kernel_rfl
def ir_file_Get : IC :=
 (.seq (.reg none [i1 4 (.allocL [.int .i64 0, .int .i64 0, .str [], .sl true 4 0 [], .bool false, .str []]),
 i1 5 (.mov false (.c (.int .i64 0))),
 i1 6 (.mov false (.c (.int .i64 0)))] [0, 1, 4])
 (.seq (.seq (.reg none [mv 7 0,
 i1 8 (.call 69 [(.t 7)]),
 i1 9 (.un .not (.t 8))] [0, 1, 4, 9])
 (.cond (.t 9) (.seq (.reg none [i1 10 (.build [.int .i64 0, .int .i64 0, .str [], .sl true 4 0 [], .bool false, .str []] []),
 i0 (.store 6 (.t 4) (.t 10)),
 i1 5 (.mov false (.c (.int .i64 0))),
 i1 6 (.mov false (.c (.int .i64 1)))] [4, 5, 6])
 .ret)
 .skip))
 (.seq (.reg none [mv 11 0,
 i1 12 (.nilCheck (.t 11)),
 i1 13 (.fieldAddr 2 (.t 12)),
 i1 14 (.load 1 false (.t 13)),
 mv 15 1,
 i1 16 (.callv (.t 14) [(.t 15)]),
 i1 17 (.extract (.t 16) 0),
 i1 18 (.extract (.t 16) 1),
 i1 19 (.extract (.t 16) 2),
 i0 (.store 6 (.t 4) (.t 17)),
 mv 5 18,
 mv 6 19] [4, 5, 6])
 .ret)))
def res_file_Get : List IRes := [⟨4, false, some (6, true)⟩, ⟨5, true, none⟩, ⟨6, true, none⟩]
theorem is_file_Get : fnIs Go.Proofs.Tryz.prog 18 20 res_file_Get ir_file_Get = true := by kernel_rfl
def ir_file_New : IC :=
 (.seq (.reg none [i1 2 (.boxS 1 (.t 0)),
 i1 3 (.boxS 2 (.t 1)),
 i1 4 (.mov false (.c (.nilp)))] [2, 3])
 (.seq (.reg none [i1 5 (.fieldAddr 1 (.t 3)),
 i1 6 (.load 1 false (.t 5)),
 i1 7 (.fieldAddr 0 (.t 3)),
 i1 8 (.load 1 false (.t 7)),
 i1 9 (.len 0 (.t 8)),
 i1 10 (.makeFn 63 [] [(.t 3), (.t 2)]),
 i1 11 (.build [.int .i64 0, .int .i64 0, .nilf] [(0, 1, (.t 6)), (1, 1, (.t 9)), (2, 1, (.t 10))]),
 i1 12 (.boxS 3 (.t 11)),
 mv 4 12] [4])
 .ret))
def res_file_New : List IRes := [⟨4, true, none⟩]
theorem is_file_New : fnIs Go.Proofs.Tryz.prog 16 13 res_file_New ir_file_New = true := by kernel_rfl
def ir_file_New1 : IC :=
 (.seq (.reg none [i1 4 (.allocL [.int .i64 0, .int .i64 0, .str [], .sl true 4 0 [], .bool false, .str []]),
 i1 5 (.mov false (.c (.int .i64 0))),
 i1 6 (.mov false (.c (.int .i64 0)))] [0, 1, 2, 4])
 (.seq (.reg none [i1 14 (.load 2 true (.t 1)),
 mv 15 0,
 i1 16 (.call 64 [(.t 14), (.t 15)]),
 i1 13 (.movT (.t 16)),
 i1 17 (.extract (.t 13) 0),
 i1 18 (.extract (.t 13) 1),
 mv 7 17,
 mv 8 18] [0, 2, 4, 7, 8])
 (.seq (.block 0 (.seq (.reg none [mv 20 8,
 i1 21 (.un .not (.t 20)),
 mv 19 21] [0, 2, 4, 7, 19])
 (.cond (.t 19) (.seq (.reg none [i1 22 (.build [.int .i64 0, .int .i64 0, .str [], .sl true 4 0 [], .bool false, .str []] []),
 i0 (.store 6 (.t 4) (.t 22)),
 i1 5 (.mov false (.c (.int .i64 0))),
 i1 6 (.mov false (.c (.int .i64 0)))] [4, 5, 6])
 .ret)
 (.seq (.reg none [mv 24 7,
 i1 25 (.load 1 false (.t 2)),
 i1 26 (.call 65 [(.t 25)]),
 i1 27 (.bin .geq (.t 24) (.t 26)),
 mv 23 27] [0, 2, 4, 7, 23])
 (.cond (.t 23) (.seq (.reg none [i1 28 (.build [.int .i64 0, .int .i64 0, .str [], .sl true 4 0 [], .bool false, .str []] []),
 i0 (.store 6 (.t 4) (.t 28)),
 i1 5 (.mov false (.c (.int .i64 0))),
 i1 6 (.mov false (.c (.int .i64 18)))] [4, 5, 6])
 .ret)
 .skip)))))
 (.seq (.reg none [i1 30 (.load 1 false (.t 2)),
 mv 31 7,
 i1 32 (.call 66 [(.t 30), (.t 31)]),
 i1 29 (.movT (.t 32)),
 i1 33 (.extract (.t 29) 0),
 i1 34 (.extract (.t 29) 1),
 i1 35 (.extract (.t 29) 2),
 i1 36 (.extract (.t 29) 3),
 i1 10 (.allocL [.int .i64 0, .int .i64 0, .str [], .sl true 4 0 [], .bool false, .str []]),
 mv 9 33,
 i0 (.store 6 (.t 10) (.t 34)),
 mv 11 35,
 mv 12 36] [0, 4, 9, 10, 11, 12])
 (.seq (.block 1 (.seq (.reg none [mv 38 12,
 i1 39 (.bin .neq (.t 38) (.c (.int .i64 0))),
 mv 37 39] [0, 4, 9, 10, 11, 12, 37])
 (.cond (.t 37) (.seq (.reg none [i1 40 (.build [.int .i64 0, .int .i64 0, .str [], .sl true 4 0 [], .bool false, .str []] []),
 mv 41 11,
 mv 42 12,
 i0 (.store 6 (.t 4) (.t 40)),
 mv 5 41,
 mv 6 42] [4, 5, 6])
 .ret)
 (.seq (.reg none [mv 44 9,
 mv 45 0,
 i1 46 (.bin .neq (.t 44) (.t 45)),
 mv 43 46] [4, 10, 43])
 (.cond (.t 43) (.seq (.reg none [i1 47 (.build [.int .i64 0, .int .i64 0, .str [], .sl true 4 0 [], .bool false, .str []] []),
 i0 (.store 6 (.t 4) (.t 47)),
 i1 5 (.mov false (.c (.int .i64 0))),
 i1 6 (.mov false (.c (.int .i64 18)))] [4, 5, 6])
 .ret)
 .skip)))))
 (.seq (.reg none [i1 48 (.load 6 true (.t 10)),
 i0 (.store 6 (.t 4) (.t 48)),
 i1 5 (.mov false (.c (.int .i64 0))),
 i1 6 (.mov false (.c (.int .i64 0)))] [4, 5, 6])
 .ret))))))
def res_file_New1 : List IRes := [⟨4, false, some (6, true)⟩, ⟨5, true, none⟩, ⟨6, true, none⟩]
theorem is_file_New1 : fnIs Go.Proofs.Tryz.prog 63 49 res_file_New1 ir_file_New1 = true := by kernel_rfl
def FileAt (s : Store) (F : Nat) (root count : Int) (c : Nat) (caps : List AV) : Prop := s F = some (.cells [.int .i64 root, .int .i64 count, .fn c [] caps])
theorem file_is_fn {s : Store} {F c : Nat} {root count : Int} {caps : List AV} {Q : List AV → Store → Prop} (h : FileAt s F root count c caps) (hq : Q [.bool true] s) : FN Go.Proofs.Tryz.prog 69 [.ref F 0] s Q := by
  have h : s F = some (.cells [.int .i64 root, .int .i64 count, .fn c [] caps]) := h
  refine FN.weak (FN.of (draw_ok mix) is_file_is rfl (Nat.le_of_ble_eq_true rfl) ?_)
  rw [ir_file_is, res_file_is]
  simp -implicitDefEqProofs only [go_sem, start, startE, resVs, resV, resC, allV, retK, Nat.reduceBEq, Nat.reduceAdd, Nat.reduceMul, Nat.reduceLeDiff, Nat.reduceEqDiff, Nat.reduceBNe, Nat.ble_eq, UInt8.reduceToNat, UInt32.reduceToNat, h]
  exact ⟨s, Sub.refl s, hq⟩
theorem file_is_nil {s : Store} {Q : List AV → Store → Prop} (hq : Q [.bool false] s) : FN Go.Proofs.Tryz.prog 69 [.nilp] s Q := by
  refine FN.weak (FN.of (draw_ok mix) is_file_is rfl (Nat.le_of_ble_eq_true rfl) ?_)
  rw [ir_file_is, res_file_is]
  simp -implicitDefEqProofs only [go_sem, start, startE, resVs, resV, resC, allV, retK, Nat.reduceBEq, Nat.reduceAdd, Nat.reduceMul, Nat.reduceLeDiff, Nat.reduceEqDiff, Nat.reduceBNe, Nat.ble_eq, UInt8.reduceToNat, UInt32.reduceToNat]
  repeat' (first | exact ⟨s, Sub.refl s, hq⟩ | refine ⟨fun h => (by cases h), fun _ => ?_⟩ | simp -implicitDefEqProofs only [go_sem, start, startE, resVs, resV, resC, allV, retK, Nat.reduceBEq, Nat.reduceAdd, Nat.reduceMul, Nat.reduceLeDiff, Nat.reduceEqDiff, Nat.reduceBNe, Nat.ble_eq, UInt8.reduceToNat, UInt32.reduceToNat])
theorem file_Root_fn {s : Store} {F c : Nat} {root count : Int} {caps : List AV} {Q : List AV → Store → Prop} (h : FileAt s F root count c caps) (hq : Q [.int .i64 root] s) : FN Go.Proofs.Tryz.prog 23 [.ref F 0] s Q := by
  refine FN.weak (FN.of (draw_ok mix) is_file_Root rfl (Nat.le_of_ble_eq_true rfl) ?_)
  rw [ir_file_Root, res_file_Root]
  simp -implicitDefEqProofs only [go_sem, start, startE, resVs, resV, resC, allV, retK, Nat.reduceBEq, Nat.reduceAdd, Nat.reduceMul, Nat.reduceLeDiff, Nat.reduceEqDiff, Nat.reduceBNe, Nat.ble_eq, UInt8.reduceToNat, UInt32.reduceToNat]
  refine file_is_fn h ?_
  have h : s F = some (.cells [.int .i64 root, .int .i64 count, .fn c [] caps]) := h
  simp -implicitDefEqProofs only [go_sem, start, startE, resVs, resV, resC, allV, retK, Nat.reduceBEq, Nat.reduceAdd, Nat.reduceMul, Nat.reduceLeDiff, Nat.reduceEqDiff, Nat.reduceBNe, Nat.ble_eq, UInt8.reduceToNat, UInt32.reduceToNat, h]
  exact ⟨fun h => h.elim, fun _ => ⟨s, Sub.refl s, hq⟩⟩
theorem file_Count_fn {s : Store} {F c : Nat} {root count : Int} {caps : List AV} {Q : List AV → Store → Prop} (h : FileAt s F root count c caps) (hq : Q [.int .i64 count] s) : FN Go.Proofs.Tryz.prog 24 [.ref F 0] s Q := by
  refine FN.weak (FN.of (draw_ok mix) is_file_Count rfl (Nat.le_of_ble_eq_true rfl) ?_)
  rw [ir_file_Count, res_file_Count]
  simp -implicitDefEqProofs only [go_sem, start, startE, resVs, resV, resC, allV, retK, Nat.reduceBEq, Nat.reduceAdd, Nat.reduceMul, Nat.reduceLeDiff, Nat.reduceEqDiff, Nat.reduceBNe, Nat.ble_eq, UInt8.reduceToNat, UInt32.reduceToNat]
  refine file_is_fn h ?_
  have h : s F = some (.cells [.int .i64 root, .int .i64 count, .fn c [] caps]) := h
  simp -implicitDefEqProofs only [go_sem, start, startE, resVs, resV, resC, allV, retK, Nat.reduceBEq, Nat.reduceAdd, Nat.reduceMul, Nat.reduceLeDiff, Nat.reduceEqDiff, Nat.reduceBNe, Nat.ble_eq, UInt8.reduceToNat, UInt32.reduceToNat, h]
  exact ⟨fun h => h.elim, fun _ => ⟨s, Sub.refl s, hq⟩⟩
theorem file_Root_nil {s : Store} {Q : List AV → Store → Prop} (hq : Q [.int .i64 0] s) : FN Go.Proofs.Tryz.prog 23 [.nilp] s Q := by
  refine FN.weak (FN.of (draw_ok mix) is_file_Root rfl (Nat.le_of_ble_eq_true rfl) ?_)
  rw [ir_file_Root, res_file_Root]
  simp -implicitDefEqProofs only [go_sem, start, startE, resVs, resV, resC, allV, retK, Nat.reduceBEq, Nat.reduceAdd, Nat.reduceMul, Nat.reduceLeDiff, Nat.reduceEqDiff, Nat.reduceBNe, Nat.ble_eq, UInt8.reduceToNat, UInt32.reduceToNat]
  refine file_is_nil ?_
  simp -implicitDefEqProofs only [go_sem, start, startE, resVs, resV, resC, allV, retK, Nat.reduceBEq, Nat.reduceAdd, Nat.reduceMul, Nat.reduceLeDiff, Nat.reduceEqDiff, Nat.reduceBNe, Nat.ble_eq, UInt8.reduceToNat, UInt32.reduceToNat]
  exact ⟨fun _ => ⟨s, Sub.refl s, hq⟩, fun h => (by cases h)⟩
theorem file_Count_nil {s : Store} {Q : List AV → Store → Prop} (hq : Q [.int .i64 0] s) : FN Go.Proofs.Tryz.prog 24 [.nilp] s Q := by
  refine FN.weak (FN.of (draw_ok mix) is_file_Count rfl (Nat.le_of_ble_eq_true rfl) ?_)
  rw [ir_file_Count, res_file_Count]
  simp -implicitDefEqProofs only [go_sem, start, startE, resVs, resV, resC, allV, retK, Nat.reduceBEq, Nat.reduceAdd, Nat.reduceMul, Nat.reduceLeDiff, Nat.reduceEqDiff, Nat.reduceBNe, Nat.ble_eq, UInt8.reduceToNat, UInt32.reduceToNat]
  refine file_is_nil ?_
  simp -implicitDefEqProofs only [go_sem, start, startE, resVs, resV, resC, allV, retK, Nat.reduceBEq, Nat.reduceAdd, Nat.reduceMul, Nat.reduceLeDiff, Nat.reduceEqDiff, Nat.reduceBNe, Nat.ble_eq, UInt8.reduceToNat, UInt32.reduceToNat]
  exact ⟨fun _ => ⟨s, Sub.refl s, hq⟩, fun h => (by cases h)⟩
abbrev TAB (t : chain_Table) : List AV := [.sl false 1 t.Places.length (flat t.Places), .int .i64 t.Root]
def NewAt (s : Store) (F B : Nat) (t : chain_Table) : Prop := ∃ tb sb, FileAt s F t.Root t.Places.length 63 [.ref tb 0, .ref sb 0] ∧ s tb = some (.cells (TAB t)) ∧ s sb = some (.cells [.ref B 0])
theorem file_New_fn {s : Store} {B : Nat} {t : chain_Table} {Q : List AV → Store → Prop} (hq : ∀ F s', Sub s s' → NewAt s' F B t → Q [.ref F 0] s') : FN Go.Proofs.Tryz.prog 16 [.ref B 0, .agg (TAB t)] s Q := by
  refine FN.weak (FN.of (draw_ok mix) is_file_New rfl (Nat.le_of_ble_eq_true rfl) ?_)
  rw [ir_file_New, res_file_New]
  simp -implicitDefEqProofs only [go_sem, start, startE, resVs, resV, resC, allV, retK, Nat.reduceBEq, Nat.reduceAdd, Nat.reduceMul, Nat.reduceLeDiff, Nat.reduceEqDiff, Nat.reduceBNe, Nat.ble_eq, UInt8.reduceToNat, UInt32.reduceToNat]
  intro sb hsb tb htb F hF
  have n1 := htb
  rw [set_none] at n1
  have n2 := hF
  rw [set_none] at n2
  have n3 := n2.2
  rw [set_none] at n3
  exact ⟨_, Sub.refl _, hq F _ ((((Sub.refl s).set hsb).set htb).set hF) ⟨tb, sb, set_same .., by rw [set_ne (Ne.symm n2.1), set_same], by rw [set_ne (Ne.symm n3.1), set_ne (Ne.symm n1.1), set_same]⟩⟩
def zeroO : api_Object := ⟨⟨0, 0, ⟨[]⟩, []⟩, false, ⟨[]⟩⟩
def file_New1 (g : SrcG) (t : chain_Table) (n : Int) : Option (api_Object × Int × Int) :=
  bnd (chain_Find t n) fun p =>
  if !p.2 then some (zeroO, 0, 0)
  else if decide (p.1 ≥ g.total) then some (zeroO, 0, 18)
  else bnd (file_parse g p.1) fun r =>
  if r.2.2.2 != 0 then some (zeroO, r.2.2.1, r.2.2.2)
  else if r.1 != n then some (zeroO, 0, 18)
  else some (r.2.1, 0, 0)
theorem file_New1_fn {s0 s : Store} {B tb sb : Nat} {g : SrcG} {t : chain_Table} {n : Int} {Q : List AV → Store → Prop} (h : SrcAt s0 s B g) (ht : g.total ≤ 2147483647) (h1 : s tb = some (.cells (TAB t))) (h2 : s sb = some (.cells [.ref B 0])) :
    ok (file_New1 g t n) (fun r => Q [OBJ r.1, .int .i64 r.2.1, .int .i64 r.2.2] s) → FN Go.Proofs.Tryz.prog 63 [.int .i64 n, .ref tb 0, .ref sb 0] s Q := by
  intro hh
  refine FN.weak (FN.of (draw_ok mix) is_file_New1 rfl (Nat.le_of_ble_eq_true rfl) ?_)
  rw [ir_file_New1, res_file_New1]
  revert hh
  rw [file_New1]
  simp -implicitDefEqProofs only [go_sem, start, startE, resVs, resV, resC, allV, retK, Nat.reduceBEq, Nat.reduceAdd, Nat.reduceMul, Nat.reduceLeDiff, Nat.reduceEqDiff, Nat.reduceBNe, Nat.ble_eq, UInt8.reduceToNat, UInt32.reduceToNat, h1]
  rintro ⟨p, hp, c1, c2⟩
  refine FE.app (chain_Find_fe hp) ?_
  refine ⟨rfl, ?_⟩
  simp -implicitDefEqProofs only [go_sem, start, startE, resVs, resV, resC, allV, retK, Nat.reduceBEq, Nat.reduceAdd, Nat.reduceMul, Nat.reduceLeDiff, Nat.reduceEqDiff, Nat.reduceBNe, Nat.ble_eq, UInt8.reduceToNat, UInt32.reduceToNat, h2]
  refine ⟨fun hc => ⟨s, Sub.refl s, c1 hc⟩, fun hc => ?_⟩
  have c2 := c2 hc
  refine Source_Total_fn h ?_
  simp -implicitDefEqProofs only [go_sem, start, startE, resVs, resV, resC, allV, retK, Nat.reduceBEq, Nat.reduceAdd, Nat.reduceMul, Nat.reduceLeDiff, Nat.reduceEqDiff, Nat.reduceBNe, Nat.ble_eq, UInt8.reduceToNat, UInt32.reduceToNat, h2]
  refine ⟨fun hd => ⟨s, Sub.refl s, c2.1 hd⟩, fun hd => ?_⟩
  refine file_parse_fn h ht (ok_mono (c2.2 hd) fun r hr => ?_)
  revert hr
  simp -implicitDefEqProofs only [go_sem, start, startE, resVs, resV, resC, allV, retK, Nat.reduceBEq, Nat.reduceAdd, Nat.reduceMul, Nat.reduceLeDiff, Nat.reduceEqDiff, Nat.reduceBNe, Nat.ble_eq, UInt8.reduceToNat, UInt32.reduceToNat]
  exact fun ⟨d1, d2⟩ => ⟨fun e => ⟨s, Sub.refl s, d1 e⟩, fun e => ⟨fun f => ⟨s, Sub.refl s, (d2 e).1 f⟩, fun f => ⟨s, Sub.refl s, (d2 e).2 f⟩⟩⟩
theorem file_Get_fn {s : Store} {F c : Nat} {root count n : Int} {caps : List AV} {Q : List AV → Store → Prop} {r : api_Object × Int × Int} (h : FileAt s F root count c caps) (hok : (fnOK Go.Proofs.Tryz.prog c = true) = True)
    (hv : argsV (fun x => match x with | .c a => a | _ => .undef) (caps.map .c) = some caps) (hc : FE Go.Proofs.Tryz.prog c ([.int .i64 n] ++ caps) s [OBJ r.1, .int .i64 r.2.1, .int .i64 r.2.2] s) (hq : Q [OBJ r.1, .int .i64 r.2.1, .int .i64 r.2.2] s) : FN Go.Proofs.Tryz.prog 18 [.ref F 0, .int .i64 n] s Q := by
  refine FN.weak (FN.of (draw_ok mix) is_file_Get rfl (Nat.le_of_ble_eq_true rfl) ?_)
  rw [ir_file_Get, res_file_Get]
  simp -implicitDefEqProofs only [go_sem, start, startE, resVs, resV, resC, allV, retK, Nat.reduceBEq, Nat.reduceAdd, Nat.reduceMul, Nat.reduceLeDiff, Nat.reduceEqDiff, Nat.reduceBNe, Nat.ble_eq, UInt8.reduceToNat, UInt32.reduceToNat]
  refine file_is_fn h ?_
  have h : s F = some (.cells [.int .i64 root, .int .i64 count, .fn c [] caps]) := h
  simp -implicitDefEqProofs only [go_sem, start, startE, resVs, resV, resC, allV, retK, Nat.reduceBEq, Nat.reduceAdd, Nat.reduceMul, Nat.reduceLeDiff, Nat.reduceEqDiff, Nat.reduceBNe, Nat.ble_eq, UInt8.reduceToNat, UInt32.reduceToNat, h, hok]
  refine ⟨fun h => h.elim, fun _ => FE.app hc ?_⟩
  refine ⟨rfl, ?_⟩
  simp -implicitDefEqProofs only [go_sem, start, startE, resVs, resV, resC, allV, retK, Nat.reduceBEq, Nat.reduceAdd, Nat.reduceMul, Nat.reduceLeDiff, Nat.reduceEqDiff, Nat.reduceBNe, Nat.ble_eq, UInt8.reduceToNat, UInt32.reduceToNat]
  exact ⟨s, Sub.refl s, hq⟩
theorem file_Get_nil {s : Store} {n : Int} {Q : List AV → Store → Prop} (hq : Q [OBJ zeroO, .int .i64 0, .int .i64 1] s) : FN Go.Proofs.Tryz.prog 18 [.nilp, .int .i64 n] s Q := by
  refine FN.weak (FN.of (draw_ok mix) is_file_Get rfl (Nat.le_of_ble_eq_true rfl) ?_)
  rw [ir_file_Get, res_file_Get]
  simp -implicitDefEqProofs only [go_sem, start, startE, resVs, resV, resC, allV, retK, Nat.reduceBEq, Nat.reduceAdd, Nat.reduceMul, Nat.reduceLeDiff, Nat.reduceEqDiff, Nat.reduceBNe, Nat.ble_eq, UInt8.reduceToNat, UInt32.reduceToNat]
  refine file_is_nil ?_
  simp -implicitDefEqProofs only [go_sem, start, startE, resVs, resV, resC, allV, retK, Nat.reduceBEq, Nat.reduceAdd, Nat.reduceMul, Nat.reduceLeDiff, Nat.reduceEqDiff, Nat.reduceBNe, Nat.ble_eq, UInt8.reduceToNat, UInt32.reduceToNat]
  exact ⟨fun _ => ⟨s, Sub.refl s, hq⟩, fun h => (by cases h)⟩
theorem file_is_zero {s : Store} {F : Nat} {Q : List AV → Store → Prop} (h : s F = some (.cells [.int .i64 0, .int .i64 0, .nilf])) (hq : Q [.bool false] s) : FN Go.Proofs.Tryz.prog 69 [.ref F 0] s Q := by
  refine FN.weak (FN.of (draw_ok mix) is_file_is rfl (Nat.le_of_ble_eq_true rfl) ?_)
  rw [ir_file_is, res_file_is]
  simp -implicitDefEqProofs only [go_sem, start, startE, resVs, resV, resC, allV, retK, Nat.reduceBEq, Nat.reduceAdd, Nat.reduceMul, Nat.reduceLeDiff, Nat.reduceEqDiff, Nat.reduceBNe, Nat.ble_eq, UInt8.reduceToNat, UInt32.reduceToNat, h]
  exact ⟨s, Sub.refl s, hq⟩
theorem file_Get_zero {s : Store} {F : Nat} {n : Int} {Q : List AV → Store → Prop} (h : s F = some (.cells [.int .i64 0, .int .i64 0, .nilf])) (hq : Q [OBJ zeroO, .int .i64 0, .int .i64 1] s) : FN Go.Proofs.Tryz.prog 18 [.ref F 0, .int .i64 n] s Q := by
  refine FN.weak (FN.of (draw_ok mix) is_file_Get rfl (Nat.le_of_ble_eq_true rfl) ?_)
  rw [ir_file_Get, res_file_Get]
  simp -implicitDefEqProofs only [go_sem, start, startE, resVs, resV, resC, allV, retK, Nat.reduceBEq, Nat.reduceAdd, Nat.reduceMul, Nat.reduceLeDiff, Nat.reduceEqDiff, Nat.reduceBNe, Nat.ble_eq, UInt8.reduceToNat, UInt32.reduceToNat]
  refine file_is_zero h ?_
  simp -implicitDefEqProofs only [go_sem, start, startE, resVs, resV, resC, allV, retK, Nat.reduceBEq, Nat.reduceAdd, Nat.reduceMul, Nat.reduceLeDiff, Nat.reduceEqDiff, Nat.reduceBNe, Nat.ble_eq, UInt8.reduceToNat, UInt32.reduceToNat]
  exact ⟨fun _ => ⟨s, Sub.refl s, hq⟩, fun h => (by cases h)⟩
theorem file_Root_zero {s : Store} {F : Nat} {Q : List AV → Store → Prop} (h : s F = some (.cells [.int .i64 0, .int .i64 0, .nilf])) (hq : Q [.int .i64 0] s) : FN Go.Proofs.Tryz.prog 23 [.ref F 0] s Q := by
  refine FN.weak (FN.of (draw_ok mix) is_file_Root rfl (Nat.le_of_ble_eq_true rfl) ?_)
  rw [ir_file_Root, res_file_Root]
  simp -implicitDefEqProofs only [go_sem, start, startE, resVs, resV, resC, allV, retK, Nat.reduceBEq, Nat.reduceAdd, Nat.reduceMul, Nat.reduceLeDiff, Nat.reduceEqDiff, Nat.reduceBNe, Nat.ble_eq, UInt8.reduceToNat, UInt32.reduceToNat]
  refine file_is_zero h ?_
  simp -implicitDefEqProofs only [go_sem, start, startE, resVs, resV, resC, allV, retK, Nat.reduceBEq, Nat.reduceAdd, Nat.reduceMul, Nat.reduceLeDiff, Nat.reduceEqDiff, Nat.reduceBNe, Nat.ble_eq, UInt8.reduceToNat, UInt32.reduceToNat]
  exact ⟨fun _ => ⟨s, Sub.refl s, hq⟩, fun h => (by cases h)⟩
theorem file_Count_zero {s : Store} {F : Nat} {Q : List AV → Store → Prop} (h : s F = some (.cells [.int .i64 0, .int .i64 0, .nilf])) (hq : Q [.int .i64 0] s) : FN Go.Proofs.Tryz.prog 24 [.ref F 0] s Q := by
  refine FN.weak (FN.of (draw_ok mix) is_file_Count rfl (Nat.le_of_ble_eq_true rfl) ?_)
  rw [ir_file_Count, res_file_Count]
  simp -implicitDefEqProofs only [go_sem, start, startE, resVs, resV, resC, allV, retK, Nat.reduceBEq, Nat.reduceAdd, Nat.reduceMul, Nat.reduceLeDiff, Nat.reduceEqDiff, Nat.reduceBNe, Nat.ble_eq, UInt8.reduceToNat, UInt32.reduceToNat]
  refine file_is_zero h ?_
  simp -implicitDefEqProofs only [go_sem, start, startE, resVs, resV, resC, allV, retK, Nat.reduceBEq, Nat.reduceAdd, Nat.reduceMul, Nat.reduceLeDiff, Nat.reduceEqDiff, Nat.reduceBNe, Nat.ble_eq, UInt8.reduceToNat, UInt32.reduceToNat]
  exact ⟨fun _ => ⟨s, Sub.refl s, hq⟩, fun h => (by cases h)⟩
end Go.AB
end

section
set_option maxRecDepth 4000
namespace Go.AB
open Go
attribute [-go_sem] xwp_cons xwpK_eq xalt_cons xalt_nil
def ref11_Compare : Nat → api_Value → api_Value → Option (Int)
  | 0, _, _ => none
  | fuel + 1, a_0, b_1 =>
    if (decide (a_0.Kind < b_1.Kind)) || ((a_0.Kind == b_1.Kind) && ((decide (a_0.N < b_1.N)) || ((a_0.N == b_1.N) && (Op.bytesLess a_0.S.b b_1.S.b)))) then
      some (-1)
    else
      if ((a_0.Kind != b_1.Kind) || (a_0.N != b_1.N)) || (!(a_0.S.b == b_1.S.b)) then
        some 1
      else
        jnS (
          bndS (
            iter (fun (k4 : Int) =>
              if (decide (k4 < (a_0.L.length : Int))) && (decide (k4 < (b_1.L.length : Int))) then
                need (0 ≤ k4 ∧ k4 < a_0.L.length) <|
                need (0 ≤ k4 ∧ k4 < b_1.L.length) <|
                bnd (ref11_Compare fuel (ix a_0.L k4) (ix b_1.L k4)) fun r8 =>
                if r8 != 0 then
                  some (.inr (.inr r8))
                else
                  some (.inl (w64 (k4 + 1)))
              else
                some (.inr (.inl ()))) 0) (fun (_ : Unit) =>
            some (.inl ()))
          (fun (t7 : Int) => some (.inr t7))) (fun (_ : Unit) =>
          if decide ((a_0.L.length : Int) < (b_1.L.length : Int)) then
            some (-1)
          else
            if decide ((a_0.L.length : Int) > (b_1.L.length : Int)) then
              some 1
            else
              some 0)
        (fun (t3 : Int) => some t3)
def ir_ref11_Compare : IC :=
 (.seq (.reg none [i1 2 (.boxL 4 (.t 0)),
 i1 3 (.boxL 4 (.t 1)),
 i1 4 (.mov false (.c (.int .i64 0)))] [2, 3])
 (.seq (.block 0 (.seq (.reg none [i1 8 (.fieldAddr 0 (.t 2)),
 i1 9 (.load 1 false (.t 8)),
 i1 10 (.fieldAddr 0 (.t 3)),
 i1 11 (.load 1 false (.t 10)),
 i1 12 (.bin .lss (.t 9) (.t 11)),
 mv 13 12,
 i1g 14 13 false (.fieldAddr 0 (.t 2)),
 i1g 15 13 false (.load 1 false (.t 14)),
 i1g 16 13 false (.fieldAddr 0 (.t 3)),
 i1g 17 13 false (.load 1 false (.t 16)),
 i1g 18 13 false (.bin .eql (.t 15) (.t 17)),
 mvg 19 18 13 false,
 i1g 20 19 true (.fieldAddr 1 (.t 2)),
 i1g 21 19 true (.load 1 false (.t 20)),
 i1g 22 19 true (.fieldAddr 1 (.t 3)),
 i1g 23 19 true (.load 1 false (.t 22)),
 i1g 24 19 true (.bin .lss (.t 21) (.t 23)),
 mvg 25 24 19 true,
 i1g 26 25 false (.fieldAddr 1 (.t 2)),
 i1g 27 25 false (.load 1 false (.t 26)),
 i1g 28 25 false (.fieldAddr 1 (.t 3)),
 i1g 29 25 false (.load 1 false (.t 28)),
 i1g 30 25 false (.bin .eql (.t 27) (.t 29)),
 mvg 31 30 25 false,
 i1g 32 31 true (.fieldAddr 2 (.t 2)),
 i1g 33 31 true (.load 1 false (.t 32)),
 i1g 34 31 true (.fieldAddr 2 (.t 3)),
 i1g 35 31 true (.load 1 false (.t 34)),
 i1g 36 31 true (.bin .lss (.t 33) (.t 35)),
 i1g 37 25 false (.pick (.t 31) (.t 36) (.c (.bool false))),
 i1g 38 19 true (.pick (.t 25) (.c (.bool true)) (.t 37)),
 i1g 39 13 false (.pick (.t 19) (.t 38) (.c (.bool false))),
 i1 40 (.pick (.t 13) (.c (.bool true)) (.t 39)),
 mv 7 40] [2, 3, 7])
 (.cond (.t 7) (.seq (.reg none [i1 4 (.mov false (.c (.int .i64 (-1))))] [4])
 .ret)
 (.seq (.reg none [i1 42 (.fieldAddr 0 (.t 2)),
 i1 43 (.load 1 false (.t 42)),
 i1 44 (.fieldAddr 0 (.t 3)),
 i1 45 (.load 1 false (.t 44)),
 i1 46 (.bin .neq (.t 43) (.t 45)),
 mv 47 46,
 i1g 48 47 false (.fieldAddr 1 (.t 2)),
 i1g 49 47 false (.load 1 false (.t 48)),
 i1g 50 47 false (.fieldAddr 1 (.t 3)),
 i1g 51 47 false (.load 1 false (.t 50)),
 i1g 52 47 false (.bin .neq (.t 49) (.t 51)),
 i1 53 (.pick (.t 47) (.c (.bool true)) (.t 52)),
 mv 54 53,
 i1g 55 54 false (.fieldAddr 2 (.t 2)),
 i1g 56 54 false (.load 1 false (.t 55)),
 i1g 57 54 false (.fieldAddr 2 (.t 3)),
 i1g 58 54 false (.load 1 false (.t 57)),
 i1g 59 54 false (.bin .neq (.t 56) (.t 58)),
 i1 60 (.pick (.t 54) (.c (.bool true)) (.t 59)),
 mv 41 60] [2, 3, 41])
 (.cond (.t 41) (.seq (.reg none [i1 4 (.mov false (.c (.int .i64 1)))] [4])
 .ret)
 .skip)))))
 (.join [(2, false), (3, false)] (.seq (.reg none [i1 5 (.mov false (.c (.int .i64 0)))] [2, 3, 5])
 (.block 1 (.loop [(2, false), (3, false), (5, false)] (.seq (.seq (.reg none [mv 61 5,
 i1 62 (.fieldAddr 3 (.t 2)),
 i1 63 (.load 1 false (.t 62)),
 i1 64 (.len 0 (.t 63)),
 i1 65 (.bin .lss (.t 61) (.t 64)),
 mv 66 65,
 mvg 67 5 66 true,
 i1g 68 66 true (.fieldAddr 3 (.t 3)),
 i1g 69 66 true (.load 1 false (.t 68)),
 i1g 70 66 true (.len 0 (.t 69)),
 i1g 71 66 true (.bin .lss (.t 67) (.t 70)),
 i1 72 (.pick (.t 66) (.t 71) (.c (.bool false)))] [2, 3, 5, 72])
 (.cond (.t 72) .skip
 (.exit 1)))
 (.seq (.block 2 (.seq (.reg (some 12) [i1 75 (.fieldAddr 3 (.t 2)),
 i1 76 (.load 1 false (.t 75)),
 mv 77 5,
 i1 78 (.indexAddr [.int .i64 0, .int .i64 0, .str [], .sl false 4 0 []] (.t 76) (.t 77)),
 i1 79 (.load 4 true (.t 78)),
 i1 80 (.fieldAddr 3 (.t 3)),
 i1 81 (.load 1 false (.t 80)),
 mv 82 5,
 i1 83 (.indexAddr [.int .i64 0, .int .i64 0, .str [], .sl false 4 0 []] (.t 81) (.t 82)),
 i1 84 (.load 4 true (.t 83)),
 i1 85 (.call 88 [(.t 79), (.t 84)]),
 mv 6 85] [2, 3, 5, 6])
 (.seq (.reg none [mv 86 6,
 i1 87 (.bin .neq (.t 86) (.c (.int .i64 0)))] [2, 3, 5, 6, 87])
 (.cond (.t 87) (.seq (.reg none [mv 88 6,
 mv 4 88] [4])
 .ret)
 .skip))))
 (.reg none [mv 73 5,
 i1 74 (.bin .add (.t 73) (.c (.int .i64 1))),
 mv 5 74] [2, 3, 5]))))))
 (.seq (.seq (.reg none [i1 89 (.fieldAddr 3 (.t 2)),
 i1 90 (.load 1 false (.t 89)),
 i1 91 (.len 0 (.t 90)),
 i1 92 (.fieldAddr 3 (.t 3)),
 i1 93 (.load 1 false (.t 92)),
 i1 94 (.len 0 (.t 93)),
 i1 95 (.bin .lss (.t 91) (.t 94))] [2, 3, 95])
 (.cond (.t 95) (.seq (.reg none [i1 4 (.mov false (.c (.int .i64 (-1))))] [4])
 .ret)
 .skip))
 (.seq (.seq (.reg none [i1 96 (.fieldAddr 3 (.t 2)),
 i1 97 (.load 1 false (.t 96)),
 i1 98 (.len 0 (.t 97)),
 i1 99 (.fieldAddr 3 (.t 3)),
 i1 100 (.load 1 false (.t 99)),
 i1 101 (.len 0 (.t 100)),
 i1 102 (.bin .gtr (.t 98) (.t 101))] [102])
 (.cond (.t 102) (.seq (.reg none [i1 4 (.mov false (.c (.int .i64 1)))] [4])
 .ret)
 .skip))
 (.seq (.reg none [i1 4 (.mov false (.c (.int .i64 0)))] [4])
 .ret))))))
def res_ref11_Compare : List IRes := [⟨4, true, none⟩]
theorem is_ref11_Compare : fnIs Go.Proofs.Tryz.prog 88 103 res_ref11_Compare ir_ref11_Compare = true := by kernel_rfl
theorem ref11_Compare_fn {fuel : Nat} : ∀ {a_0 : api_Value} {b_1 : api_Value} {s : Store} {Q : List AV → Store → Prop} , ok (ref11_Compare fuel a_0 b_1) (fun r => Q [.int .i64 r] s) → FN Go.Proofs.Tryz.prog 88 [.agg [.int .i64 a_0.Kind, .int .i64 a_0.N, .str a_0.S.b, .sl false 4 a_0.L.length (flat a_0.L)], .agg [.int .i64 b_1.Kind, .int .i64 b_1.N, .str b_1.S.b, .sl false 4 b_1.L.length (flat b_1.L)]] s Q := by
  induction fuel with
  | zero => intros; rename_i h; rw [ref11_Compare] at h; exact absurd h (by rw [ok_none]; exact fun h => h)
  | succ fuel ih =>
  have ihfe : ∀ {a_0 : api_Value} {b_1 : api_Value} {s : Store} {r : Int} , ref11_Compare fuel a_0 b_1 = some r → FE Go.Proofs.Tryz.prog 88 [.agg [.int .i64 a_0.Kind, .int .i64 a_0.N, .str a_0.S.b, .sl false 4 a_0.L.length (flat a_0.L)], .agg [.int .i64 b_1.Kind, .int .i64 b_1.N, .str b_1.S.b, .sl false 4 b_1.L.length (flat b_1.L)]] s [.int .i64 r] s := fun  h => ih  ⟨_, h, rfl, rfl⟩
  intro a_0 b_1  s Q 
  intro h
  refine FN.of (draw_ok mix) is_ref11_Compare rfl (Nat.le_of_ble_eq_true rfl) ?_
  revert h
  rw [ir_ref11_Compare, res_ref11_Compare, ref11_Compare]
  repeat' (first
    | with_reducible exact tt_to
    | with_reducible refine and_to ?_ ?_
    | with_reducible refine im_to ?_
    | with_reducible refine call_to_q (fun _ (h : ref11_Compare fuel (ix a_0.L k4) (ix b_1.L k4) = some _) => ihfe h) (fun _ => rfl) (fun r8 => ?_)
    | ((with_reducible refine iter_to (fun (k4 : Int) => ⟨[(2, .loc [.int .i64 a_0.Kind, .int .i64 a_0.N, .str a_0.S.b, .sl false 4 a_0.L.length (flat a_0.L)]), (3, .loc [.int .i64 b_1.Kind, .int .i64 b_1.N, .str b_1.S.b, .sl false 4 b_1.L.length (flat b_1.L)]), (5, .int .i64 k4)], [], s⟩) ?_ ?_); (first | exact rfl | simp -implicitDefEqProofs only [go_sem, start, startE, resVs, resV, resC, allV, retK, Nat.reduceBEq, Nat.reduceAdd, Nat.reduceMul, Nat.reduceLeDiff, Nat.reduceEqDiff, Nat.reduceBNe, Nat.ble_eq, UInt8.reduceToNat, UInt32.reduceToNat]); rintro J k4)
    | ((with_reducible refine join_toS (fun (_ : Unit) => ⟨[(2, .loc [.int .i64 a_0.Kind, .int .i64 a_0.N, .str a_0.S.b, .sl false 4 a_0.L.length (flat a_0.L)]), (3, .loc [.int .i64 b_1.Kind, .int .i64 b_1.N, .str b_1.S.b, .sl false 4 b_1.L.length (flat b_1.L)])], [], s⟩) (fun J => ?_) ?_); rotate_left; rintro _)
    | simp -implicitDefEqProofs only [go_sem, start, startE, resVs, resV, resC, allV, retK, Nat.reduceBEq, Nat.reduceAdd, Nat.reduceMul, Nat.reduceLeDiff, Nat.reduceEqDiff, Nat.reduceBNe, Nat.ble_eq, UInt8.reduceToNat, UInt32.reduceToNat])
theorem ref11_Compare_fe {fuel : Nat} {a_0 b_1} {s : Store} {r : Int}  (h : ref11_Compare fuel a_0 b_1 = some r) : FE Go.Proofs.Tryz.prog 88 [.agg [.int .i64 a_0.Kind, .int .i64 a_0.N, .str a_0.S.b, .sl false 4 a_0.L.length (flat a_0.L)], .agg [.int .i64 b_1.Kind, .int .i64 b_1.N, .str b_1.S.b, .sl false 4 b_1.L.length (flat b_1.L)]] s [.int .i64 r] s := ref11_Compare_fn  ⟨r, h, rfl, rfl⟩
def ref11_Same (a_0 : api_Value) (b_1 : api_Value) : Option (Bool) :=
  bnd (ref11_Compare bigN a_0 b_1) fun r1 =>
  some (r1 == 0)
def ir_ref11_Same : IC :=
 (.seq (.reg none [i1 2 (.boxL 4 (.t 0)),
 i1 3 (.boxL 4 (.t 1)),
 i1 4 (.mov false (.c (.bool false)))] [2, 3])
 (.seq (.reg none [i1 5 (.load 4 true (.t 2)),
 i1 6 (.load 4 true (.t 3)),
 i1 7 (.call 88 [(.t 5), (.t 6)]),
 i1 8 (.bin .eql (.t 7) (.c (.int .i64 0))),
 mv 4 8] [4])
 .ret))
def res_ref11_Same : List IRes := [⟨4, true, none⟩]
theorem is_ref11_Same : fnIs Go.Proofs.Tryz.prog 40 9 res_ref11_Same ir_ref11_Same = true := by kernel_rfl
theorem ref11_Same_fn {a_0 b_1} {s : Store} {Q : List AV → Store → Prop}  : ok (ref11_Same a_0 b_1) (fun r => Q [.bool r] s) → FN Go.Proofs.Tryz.prog 40 [.agg [.int .i64 a_0.Kind, .int .i64 a_0.N, .str a_0.S.b, .sl false 4 a_0.L.length (flat a_0.L)], .agg [.int .i64 b_1.Kind, .int .i64 b_1.N, .str b_1.S.b, .sl false 4 b_1.L.length (flat b_1.L)]] s Q := by
  intro h
  refine FN.of (draw_ok mix) is_ref11_Same rfl (Nat.le_of_ble_eq_true rfl) ?_
  revert h
  rw [ir_ref11_Same, res_ref11_Same, ref11_Same]
  repeat' (first
    | with_reducible refine call_to (fun _ (h : ref11_Compare bigN a_0 b_1 = some _) => ref11_Compare_fe h) (fun r1 => ?_)
    | simp -implicitDefEqProofs only [go_sem, start, startE, resVs, resV, resC, allV, retK, Nat.reduceBEq, Nat.reduceAdd, Nat.reduceMul, Nat.reduceLeDiff, Nat.reduceEqDiff, Nat.reduceBNe, Nat.ble_eq, UInt8.reduceToNat, UInt32.reduceToNat])
theorem ref11_Same_fe {a_0 b_1} {s : Store} {r : Bool}  (h : ref11_Same a_0 b_1 = some r) : FE Go.Proofs.Tryz.prog 40 [.agg [.int .i64 a_0.Kind, .int .i64 a_0.N, .str a_0.S.b, .sl false 4 a_0.L.length (flat a_0.L)], .agg [.int .i64 b_1.Kind, .int .i64 b_1.N, .str b_1.S.b, .sl false 4 b_1.L.length (flat b_1.L)]] s [.bool r] s := ref11_Same_fn  ⟨r, h, rfl, rfl⟩
def ref14_Same (a_0 : api_Object) (b_1 : api_Object) : Option (Bool) :=
  bnd (ref11_Same a_0.V b_1.V) fun r1 =>
  some ((r1 && ((a_0.Stream == b_1.Stream) != false)) && (a_0.Data.b == b_1.Data.b))
def ir_ref14_Same : IC :=
 (.seq (.reg none [i1 2 (.boxL 6 (.t 0)),
 i1 3 (.boxL 6 (.t 1)),
 i1 4 (.mov false (.c (.bool false)))] [2, 3])
 (.seq (.reg none [i1 5 (.fieldAddr 0 (.t 2)),
 i1 6 (.load 4 true (.t 5)),
 i1 7 (.fieldAddr 0 (.t 3)),
 i1 8 (.load 4 true (.t 7)),
 i1 9 (.call 40 [(.t 6), (.t 8)]),
 mv 10 9,
 i1g 11 10 true (.fieldAddr 4 (.t 2)),
 i1g 12 10 true (.load 1 false (.t 11)),
 i1g 13 10 true (.fieldAddr 4 (.t 3)),
 i1g 14 10 true (.load 1 false (.t 13)),
 i1g 15 10 true (.eqB false (.t 12) (.t 14)),
 i1 16 (.pick (.t 10) (.t 15) (.c (.bool false))),
 mv 17 16,
 i1g 18 17 true (.fieldAddr 5 (.t 2)),
 i1g 19 17 true (.load 1 false (.t 18)),
 i1g 20 17 true (.fieldAddr 5 (.t 3)),
 i1g 21 17 true (.load 1 false (.t 20)),
 i1g 22 17 true (.bin .eql (.t 19) (.t 21)),
 i1 23 (.pick (.t 17) (.t 22) (.c (.bool false))),
 mv 4 23] [4])
 .ret))
def res_ref14_Same : List IRes := [⟨4, true, none⟩]
theorem is_ref14_Same : fnIs Go.Proofs.Tryz.prog 22 24 res_ref14_Same ir_ref14_Same = true := by kernel_rfl
theorem ref14_Same_fn {a_0 b_1} {s : Store} {Q : List AV → Store → Prop}  : ok (ref14_Same a_0 b_1) (fun r => Q [.bool r] s) → FN Go.Proofs.Tryz.prog 22 [.agg [.int .i64 a_0.V.Kind, .int .i64 a_0.V.N, .str a_0.V.S.b, .sl false 4 a_0.V.L.length (flat a_0.V.L), .bool a_0.Stream, .str a_0.Data.b], .agg [.int .i64 b_1.V.Kind, .int .i64 b_1.V.N, .str b_1.V.S.b, .sl false 4 b_1.V.L.length (flat b_1.V.L), .bool b_1.Stream, .str b_1.Data.b]] s Q := by
  intro h
  refine FN.of (draw_ok mix) is_ref14_Same rfl (Nat.le_of_ble_eq_true rfl) ?_
  revert h
  rw [ir_ref14_Same, res_ref14_Same, ref14_Same]
  repeat' (first
    | with_reducible refine call_to (fun _ (h : ref11_Same a_0.V b_1.V = some _) => ref11_Same_fe h) (fun r1 => ?_)
    | simp -implicitDefEqProofs only [go_sem, start, startE, resVs, resV, resC, allV, retK, Nat.reduceBEq, Nat.reduceAdd, Nat.reduceMul, Nat.reduceLeDiff, Nat.reduceEqDiff, Nat.reduceBNe, Nat.ble_eq, UInt8.reduceToNat, UInt32.reduceToNat])
theorem ref14_Same_fe {a_0 b_1} {s : Store} {r : Bool}  (h : ref14_Same a_0 b_1 = some r) : FE Go.Proofs.Tryz.prog 22 [.agg [.int .i64 a_0.V.Kind, .int .i64 a_0.V.N, .str a_0.V.S.b, .sl false 4 a_0.V.L.length (flat a_0.V.L), .bool a_0.Stream, .str a_0.Data.b], .agg [.int .i64 b_1.V.Kind, .int .i64 b_1.V.N, .str b_1.V.S.b, .sl false 4 b_1.V.L.length (flat b_1.V.L), .bool b_1.Stream, .str b_1.Data.b]] s [.bool r] s := ref14_Same_fn  ⟨r, h, rfl, rfl⟩
end Go.AB
end

section
set_option maxRecDepth 4000
namespace Go.AB
open Go
attribute [-go_sem] Nat.add_zero ge_0 part_zero
structure api_Doc where
  Objects : (List api_Object)
  Root : Int
instance : Enc api_Doc := ⟨2, fun x => [.sl false 6 x.Objects.length (flat x.Objects), .int .i64 x.Root], (api_Doc.mk [] 0), by decide, fun _ => rfl, fun _ => rfl⟩
@[go_sem] theorem cells_api_Doc (x : api_Doc) : Enc.cells x = [.sl false 6 x.Objects.length (flat x.Objects), .int .i64 x.Root] := rfl
@[go_sem] theorem w_api_Doc : Enc.w api_Doc = 2 := rfl
@[go_sem] theorem pad_api_Doc (l : List api_Doc) (i : Int) : pad [.sl false 6 0 [], .int .i64 0] (views (AB.sub (flat l) (i.toNat * 2) 2)) = [.sl false 6 ((ix l i).Objects).length (flat ((ix l i).Objects)), .int .i64 ((ix l i).Root)] := by
  rw [← cells_api_Doc]; exact flat_pad _ 2 l i (by rw [cells_api_Doc]; rfl) rfl
@[go_sem] theorem mk_api_Doc (x : api_Doc) : api_Doc.mk x.Objects x.Root = x := by cases x; rfl
def ir_file_All : IC :=
 (.seq (.reg none [i1 2 (.mov true (.c (.sl true 6 0 []))),
 i1 3 (.mov false (.c (.int .i64 0))),
 i1 4 (.mov false (.c (.int .i64 0)))] [0])
 (.seq (.seq (.reg none [mv 10 0,
 i1 11 (.call 69 [(.t 10)]),
 i1 12 (.un .not (.t 11))] [0, 12])
 (.cond (.t 12) (.seq (.reg none [i1 2 (.mov true (.c (.sl true 6 0 []))),
 i1 3 (.mov false (.c (.int .i64 0))),
 i1 4 (.mov false (.c (.int .i64 1)))] [2, 3, 4])
 .ret)
 .skip))
 (.seq (.reg none [i1 5 (.mov true (.c (.sl true 6 0 [])))] [0, 5])
 (.seq (.seq (.reg none [i1 6 (.mov false (.c (.int .i64 1)))] [0, 5, 6])
 (.block 0 (.loop [(0, false), (5, false), (6, false)] (.seq (.seq (.reg none [mv 13 6,
 mv 14 0,
 i1 15 (.nilCheck (.t 14)),
 i1 16 (.fieldAddr 1 (.t 15)),
 i1 17 (.load 1 false (.t 16)),
 i1 18 (.bin .leq (.t 13) (.t 17))] [0, 5, 6, 18])
 (.cond (.t 18) .skip
 (.exit 0)))
 (.seq (.block 1 (.seq (.reg none [mv 22 0,
 mv 23 6,
 i1 24 (.call 18 [(.t 22), (.t 23)]),
 mv 21 24,
 i1 25 (.extract (.t 21) 0),
 i1 26 (.extract (.t 21) 1),
 i1 27 (.extract (.t 21) 2),
 i1 7 (.allocL [.int .i64 0, .int .i64 0, .str [], .sl true 4 0 [], .bool false, .str []]),
 i0 (.store 6 (.t 7) (.t 25)),
 mv 8 26,
 mv 9 27] [0, 5, 6, 7, 8, 9])
 (.seq (.seq (.reg none [mv 28 9,
 i1 29 (.bin .neq (.t 28) (.c (.int .i64 0)))] [0, 5, 6, 7, 8, 9, 29])
 (.cond (.t 29) (.seq (.reg none [mv 30 8,
 mv 31 9,
 i1 2 (.mov true (.c (.sl true 6 0 []))),
 mv 3 30,
 mv 4 31] [2, 3, 4])
 .ret)
 .skip))
 (.reg none [mt 32 5,
 i1 33 (.load 6 true (.t 7)),
 i1 34 (.buildSl 6 1 [.int .i64 0, .int .i64 0, .str [], .sl true 4 0 [], .bool false, .str []] [(0, 6, (.t 33))]),
 i1 35 (.append 6 80 (.t 32) (.t 34)),
 mt 5 35] [0, 5, 6]))))
 (.reg none [mv 19 6,
 i1 20 (.bin .add (.t 19) (.c (.int .i64 1))),
 mv 6 20] [0, 5, 6]))))))
 (.seq (.reg none [mt 36 5,
 mt 2 36,
 i1 3 (.mov false (.c (.int .i64 0))),
 i1 4 (.mov false (.c (.int .i64 0)))] [2, 3, 4])
 .ret)))))
def res_file_All : List IRes := [⟨2, true, none⟩, ⟨3, true, none⟩, ⟨4, true, none⟩]
theorem is_file_All : fnIs Go.Proofs.Tryz.prog 27 37 res_file_All ir_file_All = true := by kernel_rfl
def ir_file_Of : IC :=
 (.seq (.reg none [i1 1 (.boxS 2 (.t 0)),
 i1 2 (.mov false (.c (.nilp)))] [1])
 (.seq (.reg none [i1 3 (.fieldAddr 1 (.t 1)),
 i1 4 (.load 1 false (.t 3)),
 i1 5 (.fieldAddr 0 (.t 1)),
 i1 6 (.load 1 false (.t 5)),
 i1 7 (.len 0 (.t 6)),
 i1 8 (.makeFn 76 [] [(.t 1)]),
 i1 9 (.build [.int .i64 0, .int .i64 0, .nilf] [(0, 1, (.t 4)), (1, 1, (.t 7)), (2, 1, (.t 8))]),
 i1 10 (.boxS 3 (.t 9)),
 mv 2 10] [2])
 .ret))
def res_file_Of : List IRes := [⟨2, true, none⟩]
theorem is_file_Of : fnIs Go.Proofs.Tryz.prog 31 11 res_file_Of ir_file_Of = true := by kernel_rfl
def ir_file_Of1 : IC :=
 (.seq (.reg none [i1 3 (.allocL [.int .i64 0, .int .i64 0, .str [], .sl true 4 0 [], .bool false, .str []]),
 i1 4 (.mov false (.c (.int .i64 0))),
 i1 5 (.mov false (.c (.int .i64 0)))] [0, 1, 3])
 (.seq (.seq (.reg none [mv 6 0,
 i1 7 (.bin .lss (.t 6) (.c (.int .i64 1))),
 mv 8 7,
 mvg 9 0 8 false,
 i1g 10 8 false (.fieldAddr 0 (.t 1)),
 i1g 11 8 false (.load 1 false (.t 10)),
 i1g 12 8 false (.len 0 (.t 11)),
 i1g 13 8 false (.bin .gtr (.t 9) (.t 12)),
 i1 14 (.pick (.t 8) (.c (.bool true)) (.t 13))] [0, 1, 3, 14])
 (.cond (.t 14) (.seq (.reg none [i1 15 (.build [.int .i64 0, .int .i64 0, .str [], .sl true 4 0 [], .bool false, .str []] []),
 i0 (.store 6 (.t 3) (.t 15)),
 i1 4 (.mov false (.c (.int .i64 0))),
 i1 5 (.mov false (.c (.int .i64 0)))] [3, 4, 5])
 .ret)
 .skip))
 (.seq (.reg none [i1 16 (.fieldAddr 0 (.t 1)),
 i1 17 (.load 1 false (.t 16)),
 mv 18 0,
 i1 19 (.bin .sub (.t 18) (.c (.int .i64 1))),
 i1 20 (.indexAddr [.int .i64 0, .int .i64 0, .str [], .sl false 4 0 [], .bool false, .str []] (.t 17) (.t 19)),
 i1 21 (.load 6 true (.t 20)),
 i0 (.store 6 (.t 3) (.t 21)),
 i1 4 (.mov false (.c (.int .i64 0))),
 i1 5 (.mov false (.c (.int .i64 0)))] [3, 4, 5])
 .ret)))
def res_file_Of1 : List IRes := [⟨3, false, some (6, true)⟩, ⟨4, true, none⟩, ⟨5, true, none⟩]
theorem is_file_Of1 : fnIs Go.Proofs.Tryz.prog 76 22 res_file_Of1 ir_file_Of1 = true := by kernel_rfl
def ir_law19_none : IC :=
 (.seq (.reg none [i1 4 (.mov false (.c (.bool false)))] [0, 1])
 (.seq (.reg none [mv 12 0,
 mv 13 1,
 i1 14 (.call 18 [(.t 12), (.t 13)]),
 i1 11 (.movT (.t 14)),
 i1 15 (.extract (.t 11) 0),
 i1 16 (.extract (.t 11) 1),
 i1 17 (.extract (.t 11) 2),
 i1 5 (.allocL [.int .i64 0, .int .i64 0, .str [], .sl true 4 0 [], .bool false, .str []]),
 i0 (.store 6 (.t 5) (.t 15)),
 mv 6 16,
 mv 7 17] [0, 5, 6, 7])
 (.seq (.reg none [mv 19 0,
 i1 20 (.call 27 [(.t 19)]),
 i1 18 (.movT (.t 20)),
 i1 21 (.extract (.t 18) 0),
 i1 22 (.extract (.t 18) 1),
 i1 23 (.extract (.t 18) 2),
 mt 8 21,
 mv 9 22,
 mv 10 23] [0, 5, 6, 7, 8, 9, 10])
 (.seq (.reg (some 32) [i1 24 (.load 6 true (.t 5)),
 i1 25 (.build [.int .i64 0, .int .i64 0, .str [], .sl false 4 0 [], .bool false, .str []] []),
 i1 26 (.call 22 [(.t 24), (.t 25)]),
 mv 27 26,
 mvg 28 6 27 true,
 i1g 29 27 true (.bin .eql (.t 28) (.c (.int .i64 0))),
 i1 30 (.pick (.t 27) (.t 29) (.c (.bool false))),
 mv 31 30,
 mvg 32 7 31 true,
 i1g 33 31 true (.bin .eql (.t 32) (.c (.int .i64 1))),
 i1 34 (.pick (.t 31) (.t 33) (.c (.bool false))),
 mv 35 34,
 mvg 36 8 35 true,
 i1g 37 35 true (.len 0 (.t 36)),
 i1g 38 35 true (.bin .eql (.t 37) (.c (.int .i64 0))),
 i1 39 (.pick (.t 35) (.t 38) (.c (.bool false))),
 mv 40 39,
 mvg 41 9 40 true,
 i1g 42 40 true (.bin .eql (.t 41) (.c (.int .i64 0))),
 i1 43 (.pick (.t 40) (.t 42) (.c (.bool false))),
 mv 44 43,
 mvg 45 10 44 true,
 i1g 46 44 true (.bin .eql (.t 45) (.c (.int .i64 1))),
 i1 47 (.pick (.t 44) (.t 46) (.c (.bool false))),
 mv 48 47,
 mvg 49 0 48 true,
 i1g 50 48 true (.call 23 [(.t 49)]),
 i1g 51 48 true (.bin .eql (.t 50) (.c (.int .i64 0))),
 i1 52 (.pick (.t 48) (.t 51) (.c (.bool false))),
 mv 53 52,
 mvg 54 0 53 true,
 i1g 55 53 true (.call 24 [(.t 54)]),
 i1g 56 53 true (.bin .eql (.t 55) (.c (.int .i64 0))),
 i1 57 (.pick (.t 53) (.t 56) (.c (.bool false))),
 mv 4 57] [4])
 .ret))))
def res_law19_none : List IRes := [⟨4, true, none⟩]
theorem is_law19_none : fnIs Go.Proofs.Tryz.prog 33 58 res_law19_none ir_law19_none = true := by kernel_rfl
theorem file_All_nil {s : Store} {Q : List AV → Store → Prop} (hq : Q [.sl true 6 0 [], .int .i64 0, .int .i64 1] s) : FN Go.Proofs.Tryz.prog 27 [.nilp] s Q := by
  refine FN.weak (FN.of (draw_ok mix) is_file_All rfl (Nat.le_of_ble_eq_true rfl) ?_)
  rw [ir_file_All, res_file_All]
  simp -implicitDefEqProofs only [go_sem, start, startE, resVs, resV, resC, allV, retK, Nat.reduceBEq, Nat.reduceAdd, Nat.reduceMul, Nat.reduceLeDiff, Nat.reduceEqDiff, Nat.reduceBNe, Nat.ble_eq, UInt8.reduceToNat, UInt32.reduceToNat]
  refine file_is_nil ?_
  simp -implicitDefEqProofs only [go_sem, start, startE, resVs, resV, resC, allV, retK, Nat.reduceBEq, Nat.reduceAdd, Nat.reduceMul, Nat.reduceLeDiff, Nat.reduceEqDiff, Nat.reduceBNe, Nat.ble_eq, UInt8.reduceToNat, UInt32.reduceToNat]
  exact ⟨fun _ => ⟨s, Sub.refl s, hq⟩, fun h => (by cases h)⟩
theorem file_All_zero {s : Store} {F : Nat} {Q : List AV → Store → Prop} (h : s F = some (.cells [.int .i64 0, .int .i64 0, .nilf])) (hq : Q [.sl true 6 0 [], .int .i64 0, .int .i64 1] s) : FN Go.Proofs.Tryz.prog 27 [.ref F 0] s Q := by
  refine FN.weak (FN.of (draw_ok mix) is_file_All rfl (Nat.le_of_ble_eq_true rfl) ?_)
  rw [ir_file_All, res_file_All]
  simp -implicitDefEqProofs only [go_sem, start, startE, resVs, resV, resC, allV, retK, Nat.reduceBEq, Nat.reduceAdd, Nat.reduceMul, Nat.reduceLeDiff, Nat.reduceEqDiff, Nat.reduceBNe, Nat.ble_eq, UInt8.reduceToNat, UInt32.reduceToNat]
  refine file_is_zero h ?_
  simp -implicitDefEqProofs only [go_sem, start, startE, resVs, resV, resC, allV, retK, Nat.reduceBEq, Nat.reduceAdd, Nat.reduceMul, Nat.reduceLeDiff, Nat.reduceEqDiff, Nat.reduceBNe, Nat.ble_eq, UInt8.reduceToNat, UInt32.reduceToNat]
  exact ⟨fun _ => ⟨s, Sub.refl s, hq⟩, fun h => (by cases h)⟩
abbrev DOC (d : api_Doc) : List AV := [.sl false 6 d.Objects.length (flat d.Objects), .int .i64 d.Root]
theorem file_Of_fn {s : Store} {d : api_Doc} {Q : List AV → Store → Prop} (hq : ∀ F db s', Sub s s' → FileAt s' F d.Root d.Objects.length 76 [.ref db 0] → s' db = some (.cells (DOC d)) → Q [.ref F 0] s') : FN Go.Proofs.Tryz.prog 31 [.agg (DOC d)] s Q := by
  refine FN.weak (FN.of (draw_ok mix) is_file_Of rfl (Nat.le_of_ble_eq_true rfl) ?_)
  rw [ir_file_Of, res_file_Of]
  simp -implicitDefEqProofs only [go_sem, start, startE, resVs, resV, resC, allV, retK, Nat.reduceBEq, Nat.reduceAdd, Nat.reduceMul, Nat.reduceLeDiff, Nat.reduceEqDiff, Nat.reduceBNe, Nat.ble_eq, UInt8.reduceToNat, UInt32.reduceToNat]
  intro db hdb F hF
  have n2 := hF
  rw [set_none] at n2
  exact ⟨_, Sub.refl _, hq F db _ (((Sub.refl s).set hdb).set hF) (set_same ..) (by rw [set_ne (Ne.symm n2.1), set_same])⟩
def file_Of1 (d : api_Doc) (n : Int) : Option (api_Object × Int × Int) :=
  if decide (n < 1) || decide (n > (d.Objects.length : Int)) then some (zeroO, 0, 0) else some (ix d.Objects (n - 1), 0, 0)
theorem file_Of1_fn {s : Store} {d : api_Doc} {db : Nat} {n : Int} {Q : List AV → Store → Prop} (hl : d.Objects.length ≤ 2147483647) (h : s db = some (.cells (DOC d))) : ok (file_Of1 d n) (fun r => Q [OBJ r.1, .int .i64 r.2.1, .int .i64 r.2.2] s) → FN Go.Proofs.Tryz.prog 76 [.int .i64 n, .ref db 0] s Q := by
  intro hh
  refine FN.weak (FN.of (draw_ok mix) is_file_Of1 rfl (Nat.le_of_ble_eq_true rfl) ?_)
  rw [ir_file_Of1, res_file_Of1]
  revert hh
  rw [file_Of1]
  simp -implicitDefEqProofs only [go_sem, start, startE, resVs, resV, resC, allV, retK, Nat.reduceBEq, Nat.reduceAdd, Nat.reduceMul, Nat.reduceLeDiff, Nat.reduceEqDiff, Nat.reduceBNe, Nat.ble_eq, UInt8.reduceToNat, UInt32.reduceToNat, h]
  rintro ⟨c1, c2⟩
  refine ⟨fun hc => ⟨s, Sub.refl s, c1 hc⟩, fun hc => ?_⟩
  have hn : 1 ≤ n ∧ n ≤ d.Objects.length := by simp at hc; omega
  have c2 := c2 hc
  have hw : w64 (n - 1) = n - 1 := w64_id (by omega) (by omega)
  rw [hw]
  exact ⟨by omega, s, Sub.refl s, c2⟩
theorem same_zero : ref14_Same zeroO zeroO = some true := by kernel_rfl
theorem none_nil {s : Store} {n : Int} {Q : List AV → Store → Prop} (hq : Q [.bool true] s) : FN Go.Proofs.Tryz.prog 33 [.nilp, .int .i64 n] s Q := by
  refine FN.weak (FN.of (draw_ok mix) is_law19_none rfl (Nat.le_of_ble_eq_true rfl) ?_)
  rw [ir_law19_none, res_law19_none]
  simp -implicitDefEqProofs only [go_sem, start, startE, resVs, resV, resC, allV, retK, Nat.reduceBEq, Nat.reduceAdd, Nat.reduceMul, Nat.reduceLeDiff, Nat.reduceEqDiff, Nat.reduceBNe, Nat.ble_eq, UInt8.reduceToNat, UInt32.reduceToNat]
  refine file_Get_nil ?_
  simp -implicitDefEqProofs only [go_sem, start, startE, resVs, resV, resC, allV, retK, Nat.reduceBEq, Nat.reduceAdd, Nat.reduceMul, Nat.reduceLeDiff, Nat.reduceEqDiff, Nat.reduceBNe, Nat.ble_eq, UInt8.reduceToNat, UInt32.reduceToNat]
  refine file_All_nil ?_
  simp -implicitDefEqProofs only [go_sem, start, startE, resVs, resV, resC, allV, retK, Nat.reduceBEq, Nat.reduceAdd, Nat.reduceMul, Nat.reduceLeDiff, Nat.reduceEqDiff, Nat.reduceBNe, Nat.ble_eq, UInt8.reduceToNat, UInt32.reduceToNat]
  refine ⟨[.bool true], rfl, ref14_Same_fe same_zero, ?_⟩
  simp -implicitDefEqProofs only [go_sem, start, startE, resVs, resV, resC, allV, retK, Nat.reduceBEq, Nat.reduceAdd, Nat.reduceMul, Nat.reduceLeDiff, Nat.reduceEqDiff, Nat.reduceBNe, Nat.ble_eq, UInt8.reduceToNat, UInt32.reduceToNat, beq_self_eq_true, Bool.and_self, Bool.and_true]
  refine ⟨[.int .i64 0], rfl, ?_, ?_⟩
  · first | exact ⟨_, rfl, file_Root_nil ⟨rfl, rfl⟩⟩ | exact fun _ => ⟨_, rfl, file_Root_nil ⟨rfl, rfl⟩⟩ | exact file_Root_nil ⟨rfl, rfl⟩
  simp -implicitDefEqProofs only [go_sem, start, startE, resVs, resV, resC, allV, retK, Nat.reduceBEq, Nat.reduceAdd, Nat.reduceMul, Nat.reduceLeDiff, Nat.reduceEqDiff, Nat.reduceBNe, Nat.ble_eq, UInt8.reduceToNat, UInt32.reduceToNat, beq_self_eq_true, Bool.and_self, Bool.and_true]
  refine ⟨[.int .i64 0], rfl, ?_, ?_⟩
  · first | exact ⟨_, rfl, file_Count_nil ⟨rfl, rfl⟩⟩ | exact fun _ => ⟨_, rfl, file_Count_nil ⟨rfl, rfl⟩⟩ | exact file_Count_nil ⟨rfl, rfl⟩
  simp -implicitDefEqProofs only [go_sem, start, startE, resVs, resV, resC, allV, retK, Nat.reduceBEq, Nat.reduceAdd, Nat.reduceMul, Nat.reduceLeDiff, Nat.reduceEqDiff, Nat.reduceBNe, Nat.ble_eq, UInt8.reduceToNat, UInt32.reduceToNat, beq_self_eq_true, Bool.and_self, Bool.and_true]
  exact ⟨s, Sub.refl s, hq⟩
theorem none_zero {s : Store} {F : Nat} {n : Int} {Q : List AV → Store → Prop} (h : s F = some (.cells [.int .i64 0, .int .i64 0, .nilf])) (hq : Q [.bool true] s) : FN Go.Proofs.Tryz.prog 33 [.ref F 0, .int .i64 n] s Q := by
  refine FN.weak (FN.of (draw_ok mix) is_law19_none rfl (Nat.le_of_ble_eq_true rfl) ?_)
  rw [ir_law19_none, res_law19_none]
  simp -implicitDefEqProofs only [go_sem, start, startE, resVs, resV, resC, allV, retK, Nat.reduceBEq, Nat.reduceAdd, Nat.reduceMul, Nat.reduceLeDiff, Nat.reduceEqDiff, Nat.reduceBNe, Nat.ble_eq, UInt8.reduceToNat, UInt32.reduceToNat]
  refine file_Get_zero h ?_
  simp -implicitDefEqProofs only [go_sem, start, startE, resVs, resV, resC, allV, retK, Nat.reduceBEq, Nat.reduceAdd, Nat.reduceMul, Nat.reduceLeDiff, Nat.reduceEqDiff, Nat.reduceBNe, Nat.ble_eq, UInt8.reduceToNat, UInt32.reduceToNat]
  refine file_All_zero h ?_
  simp -implicitDefEqProofs only [go_sem, start, startE, resVs, resV, resC, allV, retK, Nat.reduceBEq, Nat.reduceAdd, Nat.reduceMul, Nat.reduceLeDiff, Nat.reduceEqDiff, Nat.reduceBNe, Nat.ble_eq, UInt8.reduceToNat, UInt32.reduceToNat]
  refine ⟨[.bool true], rfl, ref14_Same_fe same_zero, ?_⟩
  simp -implicitDefEqProofs only [go_sem, start, startE, resVs, resV, resC, allV, retK, Nat.reduceBEq, Nat.reduceAdd, Nat.reduceMul, Nat.reduceLeDiff, Nat.reduceEqDiff, Nat.reduceBNe, Nat.ble_eq, UInt8.reduceToNat, UInt32.reduceToNat, beq_self_eq_true, Bool.and_self, Bool.and_true]
  refine ⟨[.int .i64 0], rfl, ?_, ?_⟩
  · first | exact ⟨_, rfl, file_Root_zero h ⟨rfl, rfl⟩⟩ | exact fun _ => ⟨_, rfl, file_Root_zero h ⟨rfl, rfl⟩⟩ | exact file_Root_zero h ⟨rfl, rfl⟩
  simp -implicitDefEqProofs only [go_sem, start, startE, resVs, resV, resC, allV, retK, Nat.reduceBEq, Nat.reduceAdd, Nat.reduceMul, Nat.reduceLeDiff, Nat.reduceEqDiff, Nat.reduceBNe, Nat.ble_eq, UInt8.reduceToNat, UInt32.reduceToNat, beq_self_eq_true, Bool.and_self, Bool.and_true]
  refine ⟨[.int .i64 0], rfl, ?_, ?_⟩
  · first | exact ⟨_, rfl, file_Count_zero h ⟨rfl, rfl⟩⟩ | exact fun _ => ⟨_, rfl, file_Count_zero h ⟨rfl, rfl⟩⟩ | exact file_Count_zero h ⟨rfl, rfl⟩
  simp -implicitDefEqProofs only [go_sem, start, startE, resVs, resV, resC, allV, retK, Nat.reduceBEq, Nat.reduceAdd, Nat.reduceMul, Nat.reduceLeDiff, Nat.reduceEqDiff, Nat.reduceBNe, Nat.ble_eq, UInt8.reduceToNat, UInt32.reduceToNat, beq_self_eq_true, Bool.and_self, Bool.and_true]
  exact ⟨s, Sub.refl s, hq⟩
end Go.AB
end

section
set_option maxRecDepth 100000
namespace Go.AB
open Go
def L17 : List UInt8 := [49, 32, 48, 32, 111, 98, 106, 32, 55, 32, 101, 110, 100, 111, 98, 106, 32]
def blk17 : Blk := upd (fun _ => none) 0 (over zero4 0 L17)
def g17 : SrcG := ⟨17, [⟨0, 17⟩], blk17⟩
def seven : api_Object := ⟨⟨2, 7, ⟨[]⟩, []⟩, false, ⟨[]⟩⟩
theorem wv_parse : frame_Parse L17 0 true = some (1, seven, 16, 0) := by kernel_rfl
theorem wv_find : chain_Find ⟨[0], 1⟩ 1 = some (0, true) := by kernel_rfl
theorem wv_set : Set_Put [] ⟨0, 17⟩ = some [⟨0, 17⟩] := by kernel_rfl
theorem wv_read : Source_Read g17 0 4096 = some (L17, true) := by
  unfold Source_Read
  rw [if_neg (by decide)]
  refine bnd_of (a := (17 : Int)) (by kernel_rfl) ?_
  refine need_of (by decide) ?_
  refine bnd_of (a := L17) (by kernel_rfl) ?_
  rfl
theorem wv_put : Source_Put ⟨17, [], fun _ => none⟩ 0 L17 = some (g17, 0) := by
  unfold Source_Put
  rw [if_neg (by decide), if_neg (by decide)]
  refine bnd_of (a := [⟨0, 17⟩]) (by kernel_rfl) ?_
  refine bnd_of (a := blk17) (by kernel_rfl) ?_
  exact bnd_of (a := [⟨0, 17⟩]) (show Set_Put [] ⟨0, w64 (0 + (L17.length : Int))⟩ = _ by kernel_rfl) rfl
theorem wv_fp : file_parse g17 0 = some (1, seven, 0, 0) := by
  have h : parseB g17 0 4096 = some (.inr (1, seven, 0, 0)) := by
    unfold parseB
    refine bnd_of (a := (L17, true)) wv_read ?_
    refine bnd_of (a := (1, seven, 16, 0)) wv_parse ?_
    rfl
  have r : Runs (parseB g17 0) 1 4096 (1, seven, 0, 0) := .stop h
  exact r.iter (by decide)
theorem wv_new1 : file_New1 g17 ⟨[0], 1⟩ 1 = some (seven, 0, 0) := by
  unfold file_New1
  refine bnd_of (a := (0, true)) wv_find ?_
  rw [if_neg (by decide), if_neg (by decide)]
  refine bnd_of (a := (1, seven, 0, 0)) wv_fp ?_
  rfl
theorem wv_of1 : file_Of1 ⟨[seven], 1⟩ 1 = some (seven, 0, 0) := by kernel_rfl
end Go.AB
end

section
set_option maxRecDepth 4000
namespace Go.AB
open Go
attribute [-go_sem] Nat.add_zero ge_0 part_zero
def ir_law19_works : IC :=
 (.seq (.reg none [i1 0 (.mov false (.c (.bool false)))] [])
 (.seq (.reg none [i1 9 (.buildSl 1 17 [.int .u8 0, .int .u8 0, .int .u8 0, .int .u8 0, .int .u8 0, .int .u8 0, .int .u8 0, .int .u8 0, .int .u8 0, .int .u8 0, .int .u8 0, .int .u8 0, .int .u8 0, .int .u8 0, .int .u8 0, .int .u8 0, .int .u8 0] [(0, 1, (.c (.int .u8 49))), (1, 1, (.c (.int .u8 32))), (2, 1, (.c (.int .u8 48))), (3, 1, (.c (.int .u8 32))), (4, 1, (.c (.int .u8 111))), (5, 1, (.c (.int .u8 98))), (6, 1, (.c (.int .u8 106))), (7, 1, (.c (.int .u8 32))), (8, 1, (.c (.int .u8 55))), (9, 1, (.c (.int .u8 32))), (10, 1, (.c (.int .u8 101))), (11, 1, (.c (.int .u8 110))), (12, 1, (.c (.int .u8 100))), (13, 1, (.c (.int .u8 111))), (14, 1, (.c (.int .u8 98))), (15, 1, (.c (.int .u8 106))), (16, 1, (.c (.int .u8 32)))]),
 i1 10 (.cvtRow (.t 9)),
 i1 11 (.call 26 [(.t 10)]),
 i1 12 (.buildSl 1 1 [.int .i64 0] [(0, 1, (.c (.int .i64 0)))]),
 i1 13 (.build [.sl false 1 0 [], .int .i64 0] [(0, 1, (.t 12)), (1, 1, (.c (.int .i64 1)))]),
 i1 14 (.call 16 [(.t 11), (.t 13)]),
 mv 1 14] [1])
 (.seq (.reg none [mv 16 1,
 i1 17 (.call 18 [(.t 16), (.c (.int .i64 1))]),
 i1 15 (.movT (.t 17)),
 i1 18 (.extract (.t 15) 0),
 i1 19 (.extract (.t 15) 1),
 i1 20 (.extract (.t 15) 2),
 i1 2 (.allocL [.int .i64 0, .int .i64 0, .str [], .sl true 4 0 [], .bool false, .str []]),
 i0 (.store 6 (.t 2) (.t 18)),
 mv 3 19,
 mv 4 20] [1, 2, 3, 4])
 (.seq (.reg none [i1 21 (.build [.int .i64 0, .int .i64 0, .str [], .sl true 4 0 []] [(0, 1, (.c (.int .i64 2))), (1, 1, (.c (.int .i64 7)))]),
 i1 22 (.build [.int .i64 0, .int .i64 0, .str [], .sl true 4 0 [], .bool false, .str []] [(0, 4, (.t 21))]),
 i1 23 (.buildSl 6 1 [.int .i64 0, .int .i64 0, .str [], .sl true 4 0 [], .bool false, .str []] [(0, 6, (.t 22))]),
 i1 24 (.build [.sl false 6 0 [], .int .i64 0] [(0, 1, (.t 23)), (1, 1, (.c (.int .i64 1)))]),
 i1 25 (.call 31 [(.t 24)]),
 mv 5 25] [1, 2, 3, 4, 5])
 (.seq (.reg none [mv 27 5,
 i1 28 (.call 18 [(.t 27), (.c (.int .i64 1))]),
 i1 26 (.movT (.t 28)),
 i1 29 (.extract (.t 26) 0),
 i1 30 (.extract (.t 26) 1),
 i1 31 (.extract (.t 26) 2),
 i1 6 (.allocL [.int .i64 0, .int .i64 0, .str [], .sl true 4 0 [], .bool false, .str []]),
 i0 (.store 6 (.t 6) (.t 29)),
 mv 7 30,
 mv 8 31] [1, 2, 3, 4, 5, 6, 7, 8])
 (.seq (.reg none [i1 32 (.fieldAddr 0 (.t 2)),
 i1 33 (.fieldAddr 1 (.t 32)),
 i1 34 (.load 1 false (.t 33)),
 i1 35 (.bin .eql (.t 34) (.c (.int .i64 7))),
 mv 36 35,
 mvg 37 3 36 true,
 i1g 38 36 true (.bin .eql (.t 37) (.c (.int .i64 0))),
 i1 39 (.pick (.t 36) (.t 38) (.c (.bool false))),
 mv 40 39,
 mvg 41 4 40 true,
 i1g 42 40 true (.bin .eql (.t 41) (.c (.int .i64 0))),
 i1 43 (.pick (.t 40) (.t 42) (.c (.bool false))),
 mv 44 43,
 i1g 45 44 true (.fieldAddr 0 (.t 6)),
 i1g 46 44 true (.fieldAddr 1 (.t 45)),
 i1g 47 44 true (.load 1 false (.t 46)),
 i1g 48 44 true (.bin .eql (.t 47) (.c (.int .i64 7))),
 i1 49 (.pick (.t 44) (.t 48) (.c (.bool false))),
 mv 50 49,
 mvg 51 7 50 true,
 i1g 52 50 true (.bin .eql (.t 51) (.c (.int .i64 0))),
 i1 53 (.pick (.t 50) (.t 52) (.c (.bool false))),
 mv 54 53,
 mvg 55 8 54 true,
 i1g 56 54 true (.bin .eql (.t 55) (.c (.int .i64 0))),
 i1 57 (.pick (.t 54) (.t 56) (.c (.bool false))),
 mv 58 57,
 mvg 59 1 58 true,
 i1g 60 58 true (.call 23 [(.t 59)]),
 i1g 61 58 true (.bin .eql (.t 60) (.c (.int .i64 1))),
 i1 62 (.pick (.t 58) (.t 61) (.c (.bool false))),
 mv 63 62,
 mvg 64 5 63 true,
 i1g 65 63 true (.call 23 [(.t 64)]),
 i1g 66 63 true (.bin .eql (.t 65) (.c (.int .i64 1))),
 i1 67 (.pick (.t 63) (.t 66) (.c (.bool false))),
 mv 68 67,
 mvg 69 1 68 true,
 i1g 70 68 true (.call 24 [(.t 69)]),
 i1g 71 68 true (.bin .eql (.t 70) (.c (.int .i64 1))),
 i1 72 (.pick (.t 68) (.t 71) (.c (.bool false))),
 mv 73 72,
 mvg 74 5 73 true,
 i1g 75 73 true (.call 24 [(.t 74)]),
 i1g 76 73 true (.bin .eql (.t 75) (.c (.int .i64 1))),
 i1 77 (.pick (.t 73) (.t 76) (.c (.bool false))),
 mv 0 77] [0])
 .ret))))))
def res_law19_works : List IRes := [⟨0, true, none⟩]
theorem is_law19_works : fnIs Go.Proofs.Tryz.prog 15 78 res_law19_works ir_law19_works = true := by kernel_rfl
def ir_law19_FileNone : IC :=
 (.seq (.reg none [i1 2 (.mov false (.c (.bool false)))] [0])
 (.seq (.reg none [mv 3 0,
 i1 4 (.call 33 [(.c (.nilp)), (.t 3)]),
 mv 5 4,
 i1g 6 5 true (.build [.int .i64 0, .int .i64 0, .nilf] []),
 i1g 7 5 true (.boxS 3 (.t 6)),
 mvg 8 0 5 true,
 i1g 9 5 true (.call 33 [(.t 7), (.t 8)]),
 i1 10 (.pick (.t 5) (.t 9) (.c (.bool false))),
 mv 11 10,
 i1g 12 11 true (.call 15 []),
 i1 13 (.pick (.t 11) (.t 12) (.c (.bool false))),
 mv 2 13] [2])
 .ret))
def res_law19_FileNone : List IRes := [⟨2, true, none⟩]
theorem is_law19_FileNone : fnIs Go.Proofs.Tryz.prog 7 14 res_law19_FileNone ir_law19_FileNone = true := by kernel_rfl
theorem SrcAt.sub {s0 s s' : Store} {B : Nat} {g : SrcG} (h : SrcAt s0 s B g) (hs : Sub s s') : SrcAt s0 s' B g := by
  obtain ⟨h1, h2, M, es, h3, h4, h5, h6, h7, h8⟩ := h
  exact ⟨fun b o hb => hs b o (h1 b o hb), h2, M, es, hs _ _ h3, h4, hs _ _ h5, h6, fun k => (h7 k).mono fun b l hb => hs b _ hb, h8⟩
theorem sevenN : seven.V.N = 7 := rfl
theorem works_fn {s : Store} {Q : List AV → Store → Prop} (hq : ∀ s', Sub s s' → Q [.bool true] s') : FN Go.Proofs.Tryz.prog 15 [] s Q := by
  refine FN.weak (FN.of (draw_ok mix) is_law19_works rfl (Nat.le_of_ble_eq_true rfl) ?_)
  rw [ir_law19_works, res_law19_works]
  simp -implicitDefEqProofs only [go_sem, start, startE, resVs, resV, resC, allV, retK, Nat.reduceBEq, Nat.reduceAdd, Nat.reduceMul, Nat.reduceLeDiff, Nat.reduceEqDiff, Nat.reduceBNe, Nat.ble_eq, UInt8.reduceToNat, UInt32.reduceToNat]
  refine FN_cast (as1 := [.sl false 1 L17.length (flat L17)]) (by rfl) (source_Whole_fn (l := L17) (by decide) ⟨(g17, 0), wv_put, fun B s1 h1 => ?_⟩)
  simp -implicitDefEqProofs only [go_sem, start, startE, resVs, resV, resC, allV, retK, Nat.reduceBEq, Nat.reduceAdd, Nat.reduceMul, Nat.reduceLeDiff, Nat.reduceEqDiff, Nat.reduceBNe, Nat.ble_eq, UInt8.reduceToNat, UInt32.reduceToNat]
  refine FN_cast (as1 := [.ref B 0, .agg (TAB ⟨[0], 1⟩)]) (by rfl) (file_New_fn (t := ⟨[0], 1⟩) fun F s2 hs2 hN => ?_)
  obtain ⟨tb, sb, hF, htb, hsb⟩ := hN
  simp -implicitDefEqProofs only [go_sem, start, startE, resVs, resV, resC, allV, retK, Nat.reduceBEq, Nat.reduceAdd, Nat.reduceMul, Nat.reduceLeDiff, Nat.reduceEqDiff, Nat.reduceBNe, Nat.ble_eq, UInt8.reduceToNat, UInt32.reduceToNat]
  refine file_Get_fn (r := (seven, 0, 0)) hF (eq_true (by kernel_rfl)) rfl (file_New1_fn (h1.sub hs2) (by decide) htb hsb ⟨(seven, 0, 0), wv_new1, rfl, rfl⟩) ?_
  simp -implicitDefEqProofs only [go_sem, start, startE, resVs, resV, resC, allV, retK, Nat.reduceBEq, Nat.reduceAdd, Nat.reduceMul, Nat.reduceLeDiff, Nat.reduceEqDiff, Nat.reduceBNe, Nat.ble_eq, UInt8.reduceToNat, UInt32.reduceToNat]
  refine FN_cast (as1 := [.agg (DOC ⟨[seven], 1⟩)]) (by rfl) (file_Of_fn (d := ⟨[seven], 1⟩) fun F2 db s3 hs3 hF2 hdb => ?_)
  simp -implicitDefEqProofs only [go_sem, start, startE, resVs, resV, resC, allV, retK, Nat.reduceBEq, Nat.reduceAdd, Nat.reduceMul, Nat.reduceLeDiff, Nat.reduceEqDiff, Nat.reduceBNe, Nat.ble_eq, UInt8.reduceToNat, UInt32.reduceToNat]
  refine file_Get_fn (r := (seven, 0, 0)) hF2 (eq_true (by kernel_rfl)) rfl (file_Of1_fn (by decide) hdb ⟨(seven, 0, 0), wv_of1, rfl, rfl⟩) ?_
  simp -implicitDefEqProofs only [go_sem, start, startE, resVs, resV, resC, allV, retK, Nat.reduceBEq, Nat.reduceAdd, Nat.reduceMul, Nat.reduceLeDiff, Nat.reduceEqDiff, Nat.reduceBNe, Nat.ble_eq, UInt8.reduceToNat, UInt32.reduceToNat, sevenN, beq_self_eq_true, Bool.and_self, Bool.and_true]
  have hF' : FileAt s3 F 1 1 63 [.ref tb 0, .ref sb 0] := hs3 _ _ hF
  have hF2' : FileAt s3 F2 1 1 76 [.ref db 0] := hF2
  have hsub : Sub s s3 := fun b o hb => hs3 b o (hs2 b o (h1.1 b o hb))
  refine ⟨fun _ => file_Root_fn hF' ?_, fun h => (by cases h)⟩
  simp -implicitDefEqProofs only [go_sem, start, startE, resVs, resV, resC, allV, retK, Nat.reduceBEq, Nat.reduceAdd, Nat.reduceMul, Nat.reduceLeDiff, Nat.reduceEqDiff, Nat.reduceBNe, Nat.ble_eq, UInt8.reduceToNat, UInt32.reduceToNat, sevenN, beq_self_eq_true, Bool.and_self, Bool.and_true]
  refine ⟨fun _ => file_Root_fn hF2' ?_, fun h => (by cases h)⟩
  simp -implicitDefEqProofs only [go_sem, start, startE, resVs, resV, resC, allV, retK, Nat.reduceBEq, Nat.reduceAdd, Nat.reduceMul, Nat.reduceLeDiff, Nat.reduceEqDiff, Nat.reduceBNe, Nat.ble_eq, UInt8.reduceToNat, UInt32.reduceToNat, sevenN, beq_self_eq_true, Bool.and_self, Bool.and_true]
  refine ⟨fun _ => file_Count_fn hF' ?_, fun h => (by cases h)⟩
  simp -implicitDefEqProofs only [go_sem, start, startE, resVs, resV, resC, allV, retK, Nat.reduceBEq, Nat.reduceAdd, Nat.reduceMul, Nat.reduceLeDiff, Nat.reduceEqDiff, Nat.reduceBNe, Nat.ble_eq, UInt8.reduceToNat, UInt32.reduceToNat, sevenN, beq_self_eq_true, Bool.and_self, Bool.and_true]
  refine ⟨fun _ => file_Count_fn hF2' ?_, fun h => (by cases h)⟩
  simp -implicitDefEqProofs only [go_sem, start, startE, resVs, resV, resC, allV, retK, Nat.reduceBEq, Nat.reduceAdd, Nat.reduceMul, Nat.reduceLeDiff, Nat.reduceEqDiff, Nat.reduceBNe, Nat.ble_eq, UInt8.reduceToNat, UInt32.reduceToNat, sevenN, beq_self_eq_true, Bool.and_self, Bool.and_true]
  exact ⟨s3, Sub.refl _, hq s3 hsub⟩
theorem FileNone_fe {s : Store} {n : Int} : FE Go.Proofs.Tryz.prog 7 [.int .i64 n] s [.bool true] s := by
  refine FN.weak (FN.of (draw_ok mix) is_law19_FileNone rfl (Nat.le_of_ble_eq_true rfl) ?_)
  rw [ir_law19_FileNone, res_law19_FileNone]
  simp -implicitDefEqProofs only [go_sem, start, startE, resVs, resV, resC, allV, retK, Nat.reduceBEq, Nat.reduceAdd, Nat.reduceMul, Nat.reduceLeDiff, Nat.reduceEqDiff, Nat.reduceBNe, Nat.ble_eq, UInt8.reduceToNat, UInt32.reduceToNat]
  refine none_nil ?_
  simp -implicitDefEqProofs only [go_sem, start, startE, resVs, resV, resC, allV, retK, Nat.reduceBEq, Nat.reduceAdd, Nat.reduceMul, Nat.reduceLeDiff, Nat.reduceEqDiff, Nat.reduceBNe, Nat.ble_eq, UInt8.reduceToNat, UInt32.reduceToNat, beq_self_eq_true, Bool.and_self, Bool.and_true]
  refine ⟨fun _ b hb => ?_, fun h => (by cases h)⟩
  refine ⟨fun _ => none_zero (set_same ..) ?_, fun h => (by cases h)⟩
  simp -implicitDefEqProofs only [go_sem, start, startE, resVs, resV, resC, allV, retK, Nat.reduceBEq, Nat.reduceAdd, Nat.reduceMul, Nat.reduceLeDiff, Nat.reduceEqDiff, Nat.reduceBNe, Nat.ble_eq, UInt8.reduceToNat, UInt32.reduceToNat, beq_self_eq_true, Bool.and_self, Bool.and_true]
  refine ⟨fun _ => works_fn fun s' hs => ?_, fun h => (by cases h)⟩
  simp -implicitDefEqProofs only [go_sem, start, startE, resVs, resV, resC, allV, retK, Nat.reduceBEq, Nat.reduceAdd, Nat.reduceMul, Nat.reduceLeDiff, Nat.reduceEqDiff, Nat.reduceBNe, Nat.ble_eq, UInt8.reduceToNat, UInt32.reduceToNat, beq_self_eq_true, Bool.and_self, Bool.and_true]
  first | exact ⟨s, fun c o hc => hs c o ((Sub.refl s).set hb c o hc), rfl, rfl⟩ | exact fun c o hc => hs c o ((Sub.refl s).set hb c o hc) | exact ⟨s, fun c o hc => hs c o ((Sub.refl s).set hb c o hc), trivial, rfl⟩ | (refine ⟨s, ?_, rfl⟩; exact fun c o hc => hs c o ((Sub.refl s).set hb c o hc)) | trace_state
end Go.AB
end

section
set_option maxRecDepth 4000
namespace Go.AB.Fd
open Go Go.AB
attribute [-go_sem] xwp_cons xwpK_eq xalt_cons xalt_nil
def law19_works : Option Bool := some true
theorem law19_works_fe {s : Store} {r : Bool} (h : law19_works = some r) : FE Go.Proofs.Tryz.prog 15 [] s [.bool r] s := by
  cases h
  refine FN.weak (works_fn fun s' hs => ?_)
  first | exact ⟨s, hs, rfl, rfl⟩ | exact ⟨s, hs, trivial, rfl⟩ | exact ⟨s, hs, rfl⟩ | trace_state
def ref11_Few : Nat → api_Value → Int → Option (Int)
  | 0, _, _ => none
  | fuel + 1, v_0, left_1 =>
    jn (
      iter (fun ((left2, k3) : Int × Int) =>
        if (decide (k3 < (v_0.L.length : Int))) && (decide (left2 ≥ 0)) then
          need (0 ≤ k3 ∧ k3 < v_0.L.length) <|
          bnd (ref11_Few fuel (ix v_0.L k3) left2) fun r5 =>
          some (.inl (r5, w64 (k3 + 1)))
        else
          some (.inr left2)) (w64 (left_1 - 1), 0)) fun (left1 : Int) =>
    some left1
def ir_ref11_Few : IC :=
 (.seq (.reg none [i1 2 (.boxL 4 (.t 0)),
 i1 4 (.mov false (.c (.int .i64 0)))] [1, 2])
 (.seq (.reg none [mv 6 1,
 i1 7 (.bin .sub (.t 6) (.c (.int .i64 1))),
 mv 1 7] [1, 2])
 (.join [(1, false)] (.seq (.reg none [i1 5 (.mov false (.c (.int .i64 0)))] [1, 2, 5])
 (.block 0 (.loop [(1, false), (2, false), (5, false)] (.seq (.seq (.reg none [mv 8 5,
 i1 9 (.fieldAddr 3 (.t 2)),
 i1 10 (.load 1 false (.t 9)),
 i1 11 (.len 0 (.t 10)),
 i1 12 (.bin .lss (.t 8) (.t 11)),
 mv 13 12,
 mvg 14 1 13 true,
 i1g 15 13 true (.bin .geq (.t 14) (.c (.int .i64 0))),
 i1 16 (.pick (.t 13) (.t 15) (.c (.bool false)))] [1, 2, 5, 16])
 (.cond (.t 16) .skip
 (.exit 0)))
 (.seq (.block 1 (.reg none [i1 19 (.fieldAddr 3 (.t 2)),
 i1 20 (.load 1 false (.t 19)),
 mv 21 5,
 i1 22 (.indexAddr [.int .i64 0, .int .i64 0, .str [], .sl false 4 0 []] (.t 20) (.t 21)),
 i1 23 (.load 4 true (.t 22)),
 mv 24 1,
 i1 25 (.call 92 [(.t 23), (.t 24)]),
 mv 1 25] [1, 2, 5]))
 (.reg none [mv 17 5,
 i1 18 (.bin .add (.t 17) (.c (.int .i64 1))),
 mv 5 18] [1, 2, 5]))))))
 (.seq (.reg none [mv 26 1,
 mv 4 26] [4])
 .ret))))
def res_ref11_Few : List IRes := [⟨4, true, none⟩]
theorem is_ref11_Few : fnIs Go.Proofs.Tryz.prog 92 27 res_ref11_Few ir_ref11_Few = true := by kernel_rfl
theorem ref11_Few_fn {fuel : Nat} : ∀ {v_0 : api_Value} {left_1 : Int} {s : Store} {Q : List AV → Store → Prop} , ok (ref11_Few fuel v_0 left_1) (fun r => Q [.int .i64 r] s) → FN Go.Proofs.Tryz.prog 92 [.agg [.int .i64 v_0.Kind, .int .i64 v_0.N, .str v_0.S.b, .sl false 4 v_0.L.length (flat v_0.L)], .int .i64 left_1] s Q := by
  induction fuel with
  | zero => intros; rename_i h; rw [ref11_Few] at h; exact absurd h (by rw [ok_none]; exact fun h => h)
  | succ fuel ih =>
  have ihfe : ∀ {v_0 : api_Value} {left_1 : Int} {s : Store} {r : Int} , ref11_Few fuel v_0 left_1 = some r → FE Go.Proofs.Tryz.prog 92 [.agg [.int .i64 v_0.Kind, .int .i64 v_0.N, .str v_0.S.b, .sl false 4 v_0.L.length (flat v_0.L)], .int .i64 left_1] s [.int .i64 r] s := fun  h => ih  ⟨_, h, rfl, rfl⟩
  intro v_0 left_1  s Q 
  intro h
  refine FN.of (draw_ok mix) is_ref11_Few rfl (Nat.le_of_ble_eq_true rfl) ?_
  revert h
  rw [ir_ref11_Few, res_ref11_Few, ref11_Few]
  repeat' (first
    | with_reducible exact tt_to
    | with_reducible refine and_to ?_ ?_
    | with_reducible refine im_to ?_
    | with_reducible refine call_to (fun _ (h : ref11_Few fuel (ix v_0.L k3) left2 = some _) => ihfe h) (fun r5 => ?_)
    | ((with_reducible refine iter_to (fun ((left2, k3) : Int × Int) => ⟨[(1, .int .i64 left2), (2, .loc [.int .i64 v_0.Kind, .int .i64 v_0.N, .str v_0.S.b, .sl false 4 v_0.L.length (flat v_0.L)]), (5, .int .i64 k3)], [], s⟩) ?_ ?_); (first | exact rfl | simp -implicitDefEqProofs only [go_sem, start, startE, resVs, resV, resC, allV, retK, Nat.reduceBEq, Nat.reduceAdd, Nat.reduceMul, Nat.reduceLeDiff, Nat.reduceEqDiff, Nat.reduceBNe, Nat.ble_eq, UInt8.reduceToNat, UInt32.reduceToNat]); rintro J ⟨left2, k3⟩)
    | ((with_reducible refine join_to (fun (left1 : Int) => ⟨[(1, .int .i64 left1)], [], s⟩) (fun J => ?_) ?_); rotate_left; rintro left1)
    | simp -implicitDefEqProofs only [go_sem, start, startE, resVs, resV, resC, allV, retK, Nat.reduceBEq, Nat.reduceAdd, Nat.reduceMul, Nat.reduceLeDiff, Nat.reduceEqDiff, Nat.reduceBNe, Nat.ble_eq, UInt8.reduceToNat, UInt32.reduceToNat])
theorem ref11_Few_fe {fuel : Nat} {v_0 left_1} {s : Store} {r : Int}  (h : ref11_Few fuel v_0 left_1 = some r) : FE Go.Proofs.Tryz.prog 92 [.agg [.int .i64 v_0.Kind, .int .i64 v_0.N, .str v_0.S.b, .sl false 4 v_0.L.length (flat v_0.L)], .int .i64 left_1] s [.int .i64 r] s := ref11_Few_fn  ⟨r, h, rfl, rfl⟩
def ref14_texts : Nat → api_Value → Option (Bool)
  | 0, _ => none
  | fuel + 1, v_0 =>
    jnS (
      bndS (
        iter (fun (k3 : Int) =>
          if decide (k3 < (v_0.L.length : Int)) then
            need (0 ≤ k3 ∧ k3 < v_0.L.length) <|
            bnd (ref14_texts fuel (ix v_0.L k3)) fun r6 =>
            if !r6 then
              some (.inr (.inr false))
            else
              some (.inl (w64 (k3 + 1)))
          else
            some (.inr (.inl ()))) 0) (fun (_ : Unit) =>
        some (.inl ()))
      (fun (t5 : Bool) => some (.inr t5))) (fun (_ : Unit) =>
      some (decide ((v_0.S.b.length : Int) ≤ 300)))
    (fun (t2 : Bool) => some t2)
def ir_ref14_texts : IC :=
 (.seq (.reg none [i1 1 (.boxL 4 (.t 0)),
 i1 2 (.mov false (.c (.bool false)))] [1])
 (.join [(1, false)] (.seq (.reg none [i1 3 (.mov false (.c (.int .i64 0)))] [1, 3])
 (.block 0 (.loop [(1, false), (3, false)] (.seq (.seq (.reg none [mv 4 3,
 i1 5 (.fieldAddr 3 (.t 1)),
 i1 6 (.load 1 false (.t 5)),
 i1 7 (.len 0 (.t 6)),
 i1 8 (.bin .lss (.t 4) (.t 7))] [1, 3, 8])
 (.cond (.t 8) .skip
 (.exit 0)))
 (.seq (.block 1 (.seq (.reg none [i1 11 (.fieldAddr 3 (.t 1)),
 i1 12 (.load 1 false (.t 11)),
 mv 13 3,
 i1 14 (.indexAddr [.int .i64 0, .int .i64 0, .str [], .sl false 4 0 []] (.t 12) (.t 13)),
 i1 15 (.load 4 true (.t 14)),
 i1 16 (.call 93 [(.t 15)]),
 i1 17 (.un .not (.t 16))] [1, 3, 17])
 (.cond (.t 17) (.seq (.reg none [i1 2 (.mov false (.c (.bool false)))] [2])
 .ret)
 .skip)))
 (.reg none [mv 9 3,
 i1 10 (.bin .add (.t 9) (.c (.int .i64 1))),
 mv 3 10] [1, 3]))))))
 (.seq (.reg none [i1 18 (.fieldAddr 2 (.t 1)),
 i1 19 (.load 1 false (.t 18)),
 i1 20 (.len 1 (.t 19)),
 i1 21 (.bin .leq (.t 20) (.c (.int .i64 300))),
 mv 2 21] [2])
 .ret)))
def res_ref14_texts : List IRes := [⟨2, true, none⟩]
theorem is_ref14_texts : fnIs Go.Proofs.Tryz.prog 93 22 res_ref14_texts ir_ref14_texts = true := by kernel_rfl
theorem ref14_texts_fn {fuel : Nat} : ∀ {v_0 : api_Value} {s : Store} {Q : List AV → Store → Prop} , ok (ref14_texts fuel v_0) (fun r => Q [.bool r] s) → FN Go.Proofs.Tryz.prog 93 [.agg [.int .i64 v_0.Kind, .int .i64 v_0.N, .str v_0.S.b, .sl false 4 v_0.L.length (flat v_0.L)]] s Q := by
  induction fuel with
  | zero => intros; rename_i h; rw [ref14_texts] at h; exact absurd h (by rw [ok_none]; exact fun h => h)
  | succ fuel ih =>
  have ihfe : ∀ {v_0 : api_Value} {s : Store} {r : Bool} , ref14_texts fuel v_0 = some r → FE Go.Proofs.Tryz.prog 93 [.agg [.int .i64 v_0.Kind, .int .i64 v_0.N, .str v_0.S.b, .sl false 4 v_0.L.length (flat v_0.L)]] s [.bool r] s := fun  h => ih  ⟨_, h, rfl, rfl⟩
  intro v_0  s Q 
  intro h
  refine FN.of (draw_ok mix) is_ref14_texts rfl (Nat.le_of_ble_eq_true rfl) ?_
  revert h
  rw [ir_ref14_texts, res_ref14_texts, ref14_texts]
  repeat' (first
    | with_reducible exact tt_to
    | with_reducible refine and_to ?_ ?_
    | with_reducible refine im_to ?_
    | with_reducible refine call_to (fun _ (h : ref14_texts fuel (ix v_0.L k3) = some _) => ihfe h) (fun r6 => ?_)
    | ((with_reducible refine iter_to (fun (k3 : Int) => ⟨[(1, .loc [.int .i64 v_0.Kind, .int .i64 v_0.N, .str v_0.S.b, .sl false 4 v_0.L.length (flat v_0.L)]), (3, .int .i64 k3)], [], s⟩) ?_ ?_); (first | exact rfl | simp -implicitDefEqProofs only [go_sem, start, startE, resVs, resV, resC, allV, retK, Nat.reduceBEq, Nat.reduceAdd, Nat.reduceMul, Nat.reduceLeDiff, Nat.reduceEqDiff, Nat.reduceBNe, Nat.ble_eq, UInt8.reduceToNat, UInt32.reduceToNat]); rintro J k3)
    | ((with_reducible refine join_toS (fun (_ : Unit) => ⟨[(1, .loc [.int .i64 v_0.Kind, .int .i64 v_0.N, .str v_0.S.b, .sl false 4 v_0.L.length (flat v_0.L)])], [], s⟩) (fun J => ?_) ?_); rotate_left; rintro _)
    | simp -implicitDefEqProofs only [go_sem, start, startE, resVs, resV, resC, allV, retK, Nat.reduceBEq, Nat.reduceAdd, Nat.reduceMul, Nat.reduceLeDiff, Nat.reduceEqDiff, Nat.reduceBNe, Nat.ble_eq, UInt8.reduceToNat, UInt32.reduceToNat])
theorem ref14_texts_fe {fuel : Nat} {v_0} {s : Store} {r : Bool}  (h : ref14_texts fuel v_0 = some r) : FE Go.Proofs.Tryz.prog 93 [.agg [.int .i64 v_0.Kind, .int .i64 v_0.N, .str v_0.S.b, .sl false 4 v_0.L.length (flat v_0.L)]] s [.bool r] s := ref14_texts_fn  ⟨r, h, rfl, rfl⟩
def ref14_Few (o_0 : api_Object) (data_1 : Int) : Option (Bool) :=
  bnd (ref11_Few bigN o_0.V 300) fun r1 =>
  bnd (whenB ((decide (r1 ≥ 0)) && (decide ((o_0.Data.b.length : Int) ≤ data_1))) false (ref14_texts bigN o_0.V)) fun r2 =>
  some (((decide (r1 ≥ 0)) && (decide ((o_0.Data.b.length : Int) ≤ data_1))) && r2)
def ir_ref14_Few : IC :=
 (.seq (.reg none [i1 2 (.boxL 6 (.t 0)),
 i1 4 (.mov false (.c (.bool false)))] [1, 2])
 (.seq (.reg (some 15) [i1 5 (.fieldAddr 0 (.t 2)),
 i1 6 (.load 4 true (.t 5)),
 i1 7 (.call 92 [(.t 6), (.c (.int .i64 300))]),
 i1 8 (.bin .geq (.t 7) (.c (.int .i64 0))),
 mv 9 8,
 i1g 10 9 true (.fieldAddr 5 (.t 2)),
 i1g 11 9 true (.load 1 false (.t 10)),
 i1g 12 9 true (.len 1 (.t 11)),
 mvg 13 1 9 true,
 i1g 14 9 true (.bin .leq (.t 12) (.t 13)),
 i1 15 (.pick (.t 9) (.t 14) (.c (.bool false))),
 mv 16 15,
 i1g 17 16 true (.fieldAddr 0 (.t 2)),
 i1g 18 16 true (.load 4 true (.t 17)),
 i1g 19 16 true (.call 93 [(.t 18)]),
 i1 20 (.pick (.t 16) (.t 19) (.c (.bool false))),
 mv 4 20] [4])
 .ret))
def res_ref14_Few : List IRes := [⟨4, true, none⟩]
theorem is_ref14_Few : fnIs Go.Proofs.Tryz.prog 45 21 res_ref14_Few ir_ref14_Few = true := by kernel_rfl
theorem ref14_Few_fn {o_0 data_1} {s : Store} {Q : List AV → Store → Prop}  : ok (ref14_Few o_0 data_1) (fun r => Q [.bool r] s) → FN Go.Proofs.Tryz.prog 45 [.agg [.int .i64 o_0.V.Kind, .int .i64 o_0.V.N, .str o_0.V.S.b, .sl false 4 o_0.V.L.length (flat o_0.V.L), .bool o_0.Stream, .str o_0.Data.b], .int .i64 data_1] s Q := by
  intro h
  refine FN.of (draw_ok mix) is_ref14_Few rfl (Nat.le_of_ble_eq_true rfl) ?_
  revert h
  rw [ir_ref14_Few, res_ref14_Few, ref14_Few]
  repeat' (first
    | with_reducible refine call_to_q (fun _ (h : ref11_Few bigN o_0.V 300 = some _) => ref11_Few_fe h) (fun _ => rfl) (fun r1 => ?_)
    | with_reducible refine call_to_g rfl (fun _ (h : ref14_texts bigN o_0.V = some _) => ref14_texts_fe h) (fun _ => rfl) (fun r2 => ?_)
    | simp -implicitDefEqProofs only [go_sem, start, startE, resVs, resV, resC, allV, retK, Nat.reduceBEq, Nat.reduceAdd, Nat.reduceMul, Nat.reduceLeDiff, Nat.reduceEqDiff, Nat.reduceBNe, Nat.ble_eq, UInt8.reduceToNat, UInt32.reduceToNat])
theorem ref14_Few_fe {o_0 data_1} {s : Store} {r : Bool}  (h : ref14_Few o_0 data_1 = some r) : FE Go.Proofs.Tryz.prog 45 [.agg [.int .i64 o_0.V.Kind, .int .i64 o_0.V.N, .str o_0.V.S.b, .sl false 4 o_0.V.L.length (flat o_0.V.L), .bool o_0.Stream, .str o_0.Data.b], .int .i64 data_1] s [.bool r] s := ref14_Few_fn  ⟨r, h, rfl, rfl⟩
def ref19_Few (l_0 : (List api_Object)) (most_1 : Int) : Option (Bool) :=
  if decide ((l_0.length : Int) > most_1) then
    some false
  else
    jnS (
      bndS (
        iter (fun (k2 : Int) =>
          if decide (k2 < (l_0.length : Int)) then
            need (0 ≤ k2 ∧ k2 < l_0.length) <|
            bnd (ref14_Few (ix l_0 k2) 300) fun r4 =>
            if !r4 then
              some (.inr (.inr false))
            else
              some (.inl (w64 (k2 + 1)))
          else
            some (.inr (.inl ()))) 0) (fun (_ : Unit) =>
        some (.inl ()))
      (fun (t3 : Bool) => some (.inr t3))) (fun (_ : Unit) =>
      some true)
    (fun (t1 : Bool) => some t1)
def ir_ref19_Few : IC :=
 (.seq (.reg none [i1 4 (.mov false (.c (.bool false)))] [0, 1])
 (.seq (.seq (.reg none [mv 6 0,
 i1 7 (.len 0 (.t 6)),
 mv 8 1,
 i1 9 (.bin .gtr (.t 7) (.t 8))] [0, 9])
 (.cond (.t 9) (.seq (.reg none [i1 4 (.mov false (.c (.bool false)))] [4])
 .ret)
 .skip))
 (.join [] (.seq (.reg none [i1 5 (.mov false (.c (.int .i64 0)))] [0, 5])
 (.block 0 (.loop [(0, true), (5, false)] (.seq (.seq (.reg none [mv 10 5,
 mv 11 0,
 i1 12 (.len 0 (.t 11)),
 i1 13 (.bin .lss (.t 10) (.t 12))] [0, 5, 13])
 (.cond (.t 13) .skip
 (.exit 0)))
 (.seq (.block 1 (.seq (.reg none [mv 16 0,
 mv 17 5,
 i1 18 (.indexAddr [.int .i64 0, .int .i64 0, .str [], .sl false 4 0 [], .bool false, .str []] (.t 16) (.t 17)),
 i1 19 (.load 6 true (.t 18)),
 i1 20 (.call 45 [(.t 19), (.c (.int .i64 300))]),
 i1 21 (.un .not (.t 20))] [0, 5, 21])
 (.cond (.t 21) (.seq (.reg none [i1 4 (.mov false (.c (.bool false)))] [4])
 .ret)
 .skip)))
 (.reg none [mv 14 5,
 i1 15 (.bin .add (.t 14) (.c (.int .i64 1))),
 mv 5 15] [0, 5]))))))
 (.seq (.reg none [i1 4 (.mov false (.c (.bool true)))] [4])
 .ret))))
def res_ref19_Few : List IRes := [⟨4, true, none⟩]
theorem is_ref19_Few : fnIs Go.Proofs.Tryz.prog 30 22 res_ref19_Few ir_ref19_Few = true := by kernel_rfl
theorem ref19_Few_fn {l_0 most_1} {s : Store} {Q : List AV → Store → Prop}  : ok (ref19_Few l_0 most_1) (fun r => Q [.bool r] s) → FN Go.Proofs.Tryz.prog 30 [.sl false 6 l_0.length (flat l_0), .int .i64 most_1] s Q := by
  intro h
  refine FN.of (draw_ok mix) is_ref19_Few rfl (Nat.le_of_ble_eq_true rfl) ?_
  revert h
  rw [ir_ref19_Few, res_ref19_Few, ref19_Few]
  repeat' (first
    | with_reducible exact tt_to
    | with_reducible refine and_to ?_ ?_
    | with_reducible refine im_to ?_
    | with_reducible refine call_to (fun _ (h : ref14_Few (ix l_0 k2) 300 = some _) => ref14_Few_fe h) (fun r4 => ?_)
    | ((with_reducible refine iter_to (fun (k2 : Int) => ⟨[(0, .sl false 6 l_0.length (flat l_0)), (5, .int .i64 k2)], [], s⟩) ?_ ?_); (first | exact rfl | simp -implicitDefEqProofs only [go_sem, start, startE, resVs, resV, resC, allV, retK, Nat.reduceBEq, Nat.reduceAdd, Nat.reduceMul, Nat.reduceLeDiff, Nat.reduceEqDiff, Nat.reduceBNe, Nat.ble_eq, UInt8.reduceToNat, UInt32.reduceToNat]); rintro J k2)
    | ((with_reducible refine join_toS (fun (_ : Unit) => ⟨[], [], s⟩) (fun J => ?_) ?_); rotate_left; rintro _)
    | simp -implicitDefEqProofs only [go_sem, start, startE, resVs, resV, resC, allV, retK, Nat.reduceBEq, Nat.reduceAdd, Nat.reduceMul, Nat.reduceLeDiff, Nat.reduceEqDiff, Nat.reduceBNe, Nat.ble_eq, UInt8.reduceToNat, UInt32.reduceToNat])
theorem ref19_Few_fe {l_0 most_1} {s : Store} {r : Bool}  (h : ref19_Few l_0 most_1 = some r) : FE Go.Proofs.Tryz.prog 30 [.sl false 6 l_0.length (flat l_0), .int .i64 most_1] s [.bool r] s := ref19_Few_fn  ⟨r, h, rfl, rfl⟩
structure file_File where
  root_ : Int
  count_ : Int
  get_ : api_Doc
def ir_file_Of : IC :=
 (.seq (.reg none [i1 1 (.boxS 2 (.t 0)),
 i1 2 (.mov false (.c (.nilp)))] [1])
 (.seq (.reg none [i1 3 (.fieldAddr 1 (.t 1)),
 i1 4 (.loadR [.int .i64 0] false (.t 3)),
 i1 5 (.fieldAddr 0 (.t 1)),
 i1 6 (.loadR [.sl false 6 0 []] false (.t 5)),
 i1 7 (.len 0 (.t 6)),
 i1 8 (.makeFn 76 [] [(.t 1)]),
 i1 9 (.build [.int .i64 0, .int .i64 0, .nilf] [(0, 1, (.t 4)), (1, 1, (.t 7)), (2, 1, (.t 8))]),
 i1 10 (.boxS 3 (.t 9)),
 mv 2 10] [2])
 .ret))
def res_file_Of : List IRes := [⟨2, true, none⟩]
theorem is_file_Of : fnIs Go.Proofs.Tryz.prog 31 11 res_file_Of ir_file_Of = true := by kernel_rfl
theorem fnok_76 : (fnOK Go.Proofs.Tryz.prog 76 = true) = True := eq_true (by kernel_rfl)
def file_Of (d : api_Doc) : Option file_File := some ⟨d.Root, d.Objects.length, d⟩
theorem file_Of_fn {d : api_Doc} {s : Store} {Q : List AV → Store → Prop} (h : ok (file_Of d) fun r => ∀ N1, s N1 = none → ∀ N2, (s.set N1 (.cells [.sl false 6 r.get_.Objects.length (flat r.get_.Objects), .int .i64 r.get_.Root])) N2 = none →
    Q [.ref N2 0] ((s.set N1 (.cells [.sl false 6 r.get_.Objects.length (flat r.get_.Objects), .int .i64 r.get_.Root])).set N2 (.cells [.int .i64 r.root_, .int .i64 r.count_, .fn 76 [] [.ref N1 0]]))) :
    FN Go.Proofs.Tryz.prog 31 [.agg [.sl false 6 d.Objects.length (flat d.Objects), .int .i64 d.Root]] s Q := by
  refine FN.of (draw_ok mix) is_file_Of rfl (Nat.le_of_ble_eq_true rfl) ?_
  unfold file_Of at h
  rw [ok_some] at h
  rw [ir_file_Of, res_file_Of]
  simp -implicitDefEqProofs only [go_sem, start, startE, resVs, resV, resC, allV, retK, Nat.reduceBEq, Nat.reduceAdd, Nat.reduceMul, Nat.reduceLeDiff, Nat.reduceEqDiff, Nat.reduceBNe, Nat.ble_eq, UInt8.reduceToNat, UInt32.reduceToNat, fnok_76, set_at]
  exact h
def file_File_is (f_0 : file_File) : Option (Bool) :=
  some (true || false)
def ir_file_File_is : IC :=
 (.seq (.reg none [i1 2 (.mov false (.c (.bool false)))] [0])
 (.seq (.reg none [mv 3 0,
 i1 4 (.eqP true (.t 3) (.c (.nilp))),
 mv 5 4,
 mvg 6 0 5 true,
 i1g 7 5 true (.nilCheck (.t 6)),
 i1g 8 5 true (.fieldAddr 2 (.t 7)),
 i1g 9 5 true (.loadR [.nilf] false (.t 8)),
 i1g 10 5 true (.eqF true (.t 9)),
 i1 11 (.pick (.t 5) (.t 10) (.c (.bool false))),
 mv 2 11] [2])
 .ret))
def res_file_File_is : List IRes := [⟨2, true, none⟩]
theorem is_file_File_is : fnIs Go.Proofs.Tryz.prog 69 12 res_file_File_is ir_file_File_is = true := by kernel_rfl
theorem file_File_is_fn {f_0} {B0 B0_get_ : Nat} {s : Store} {Q : List AV → Store → Prop} (hB0 : s B0 = some (.cells [.int .i64 f_0.root_, .int .i64 f_0.count_, .fn 76 [] [.ref B0_get_ 0]])) (hB0_get_ : s B0_get_ = some (.cells [.sl false 6 f_0.get_.Objects.length (flat f_0.get_.Objects), .int .i64 f_0.get_.Root])) (nB0B0_get_ : B0 ≠ B0_get_) : ok (file_File_is f_0) (fun r => Q [.bool r] s) → FN Go.Proofs.Tryz.prog 69 [.ref B0 0] s Q := by
  have hS : s = ((s.set B0 (.cells [.int .i64 f_0.root_, .int .i64 f_0.count_, .fn 76 [] [.ref B0_get_ 0]])).set B0_get_ (.cells [.sl false 6 f_0.get_.Objects.length (flat f_0.get_.Objects), .int .i64 f_0.get_.Root])) := by simp only [set_eq' hB0, set_eq' hB0_get_]
  rw [hS]
  intro h
  refine FN.of (draw_ok mix) is_file_File_is rfl (Nat.le_of_ble_eq_true rfl) ?_
  revert h
  rw [ir_file_File_is, res_file_File_is, file_File_is]
  repeat' (first
    | simp -implicitDefEqProofs only [go_sem, start, startE, resVs, resV, resC, allV, retK, Nat.reduceBEq, Nat.reduceAdd, Nat.reduceMul, Nat.reduceLeDiff, Nat.reduceEqDiff, Nat.reduceBNe, Nat.ble_eq, UInt8.reduceToNat, UInt32.reduceToNat, set_ne nB0B0_get_, set_ne nB0B0_get_.symm, set_comm nB0B0_get_])
theorem file_File_is_fe {f_0} {B0 B0_get_ : Nat} {s : Store} {r : Bool} (hB0 : s B0 = some (.cells [.int .i64 f_0.root_, .int .i64 f_0.count_, .fn 76 [] [.ref B0_get_ 0]])) (hB0_get_ : s B0_get_ = some (.cells [.sl false 6 f_0.get_.Objects.length (flat f_0.get_.Objects), .int .i64 f_0.get_.Root])) (nB0B0_get_ : B0 ≠ B0_get_) (h : file_File_is f_0 = some r) : FE Go.Proofs.Tryz.prog 69 [.ref B0 0] s [.bool r] s := file_File_is_fn hB0 hB0_get_ nB0B0_get_ ⟨r, h, rfl, rfl⟩
def file_Of_1 (n_0 : Int) (c_1 : api_Doc) : Option (api_Object × Int × Int) :=
  if (decide (n_0 < 1)) || (decide (n_0 > (c_1.Objects.length : Int))) then
    some ((api_Object.mk (api_Value.mk 0 0 (Str.mk []) ([] : List api_Value)) false (Str.mk [])), 0, 0)
  else
    need (0 ≤ w64 (n_0 - 1) ∧ w64 (n_0 - 1) < c_1.Objects.length) <|
    some (ix c_1.Objects (w64 (n_0 - 1)), 0, 0)
def ir_file_Of_1 : IC :=
 (.seq (.reg none [i1 3 (.allocL [.int .i64 0, .int .i64 0, .str [], .sl true 4 0 [], .bool false, .str []]),
 i1 4 (.mov false (.c (.int .i64 0))),
 i1 5 (.mov false (.c (.int .i64 0)))] [0, 1, 3])
 (.seq (.seq (.reg none [mv 6 0,
 i1 7 (.bin .lss (.t 6) (.c (.int .i64 1))),
 mv 8 7,
 mvg 9 0 8 false,
 i1g 10 8 false (.fieldAddr 0 (.t 1)),
 i1g 11 8 false (.loadR [.sl false 6 0 []] false (.t 10)),
 i1g 12 8 false (.len 0 (.t 11)),
 i1g 13 8 false (.bin .gtr (.t 9) (.t 12)),
 i1 14 (.pick (.t 8) (.c (.bool true)) (.t 13))] [0, 1, 3, 14])
 (.cond (.t 14) (.seq (.reg none [i1 15 (.build [.int .i64 0, .int .i64 0, .str [], .sl true 4 0 [], .bool false, .str []] []),
 i0 (.store 6 (.t 3) (.t 15)),
 i1 4 (.mov false (.c (.int .i64 0))),
 i1 5 (.mov false (.c (.int .i64 0)))] [3, 4, 5])
 .ret)
 .skip))
 (.seq (.reg none [i1 16 (.fieldAddr 0 (.t 1)),
 i1 17 (.loadR [.sl false 6 0 []] false (.t 16)),
 mv 18 0,
 i1 19 (.bin .sub (.t 18) (.c (.int .i64 1))),
 i1 20 (.indexAddr [.int .i64 0, .int .i64 0, .str [], .sl false 4 0 [], .bool false, .str []] (.t 17) (.t 19)),
 i1 21 (.load 6 true (.t 20)),
 i0 (.store 6 (.t 3) (.t 21)),
 i1 4 (.mov false (.c (.int .i64 0))),
 i1 5 (.mov false (.c (.int .i64 0)))] [3, 4, 5])
 .ret)))
def res_file_Of_1 : List IRes := [⟨3, false, some (6, true)⟩, ⟨4, true, none⟩, ⟨5, true, none⟩]
theorem is_file_Of_1 : fnIs Go.Proofs.Tryz.prog 76 22 res_file_Of_1 ir_file_Of_1 = true := by kernel_rfl
theorem file_Of_1_fn {n_0 c_1} {B1 : Nat} {s : Store} {Q : List AV → Store → Prop} (hB1 : s B1 = some (.cells [.sl false 6 c_1.Objects.length (flat c_1.Objects), .int .i64 c_1.Root])) : ok (file_Of_1 n_0 c_1) (fun r => Q [.agg [.int .i64 r.1.V.Kind, .int .i64 r.1.V.N, .str r.1.V.S.b, .sl false 4 r.1.V.L.length (flat r.1.V.L), .bool r.1.Stream, .str r.1.Data.b], .int .i64 r.2.1, .int .i64 r.2.2] s) → FN Go.Proofs.Tryz.prog 76 [.int .i64 n_0, .ref B1 0] s Q := by
  have hS : s = (s.set B1 (.cells [.sl false 6 c_1.Objects.length (flat c_1.Objects), .int .i64 c_1.Root])) := by simp only [set_eq' hB1]
  rw [hS]
  intro h
  refine FN.of (draw_ok mix) is_file_Of_1 rfl (Nat.le_of_ble_eq_true rfl) ?_
  revert h
  rw [ir_file_Of_1, res_file_Of_1, file_Of_1]
  repeat' (first
    | simp -implicitDefEqProofs only [go_sem, start, startE, resVs, resV, resC, allV, retK, Nat.reduceBEq, Nat.reduceAdd, Nat.reduceMul, Nat.reduceLeDiff, Nat.reduceEqDiff, Nat.reduceBNe, Nat.ble_eq, UInt8.reduceToNat, UInt32.reduceToNat])
theorem file_Of_1_fe {n_0 c_1} {B1 : Nat} {s : Store} {r : api_Object × Int × Int} (hB1 : s B1 = some (.cells [.sl false 6 c_1.Objects.length (flat c_1.Objects), .int .i64 c_1.Root])) (h : file_Of_1 n_0 c_1 = some r) : FE Go.Proofs.Tryz.prog 76 [.int .i64 n_0, .ref B1 0] s [.agg [.int .i64 r.1.V.Kind, .int .i64 r.1.V.N, .str r.1.V.S.b, .sl false 4 r.1.V.L.length (flat r.1.V.L), .bool r.1.Stream, .str r.1.Data.b], .int .i64 r.2.1, .int .i64 r.2.2] s := file_Of_1_fn hB1 ⟨r, h, rfl, rfl⟩
def file_File_Get (f_0 : file_File) (n_1 : Int) : Option (api_Object × Int × Int) :=
  bnd (file_File_is f_0) fun r1 =>
  if !r1 then
    some ((api_Object.mk (api_Value.mk 0 0 (Str.mk []) ([] : List api_Value)) false (Str.mk [])), 0, 1)
  else
    bnd (file_Of_1 n_1 f_0.get_) fun r2 =>
    some (r2.1, r2.2.1, r2.2.2)
def ir_file_File_Get : IC :=
 (.seq (.reg none [i1 4 (.allocL [.int .i64 0, .int .i64 0, .str [], .sl true 4 0 [], .bool false, .str []]),
 i1 5 (.mov false (.c (.int .i64 0))),
 i1 6 (.mov false (.c (.int .i64 0)))] [0, 1, 4])
 (.seq (.seq (.reg none [mv 7 0,
 i1 8 (.call 69 [(.t 7)]),
 i1 9 (.un .not (.t 8))] [0, 1, 4, 9])
 (.cond (.t 9) (.seq (.reg none [i1 10 (.build [.int .i64 0, .int .i64 0, .str [], .sl true 4 0 [], .bool false, .str []] []),
 i0 (.store 6 (.t 4) (.t 10)),
 i1 5 (.mov false (.c (.int .i64 0))),
 i1 6 (.mov false (.c (.int .i64 1)))] [4, 5, 6])
 .ret)
 .skip))
 (.seq (.reg none [mv 11 0,
 i1 12 (.nilCheck (.t 11)),
 i1 13 (.fieldAddr 2 (.t 12)),
 i1 14 (.loadR [.nilf] false (.t 13)),
 mv 15 1,
 i1 16 (.callv (.t 14) [(.t 15)]),
 i1 17 (.extract (.t 16) 0),
 i1 18 (.extract (.t 16) 1),
 i1 19 (.extract (.t 16) 2),
 i0 (.store 6 (.t 4) (.t 17)),
 mv 5 18,
 mv 6 19] [4, 5, 6])
 .ret)))
def res_file_File_Get : List IRes := [⟨4, false, some (6, true)⟩, ⟨5, true, none⟩, ⟨6, true, none⟩]
theorem is_file_File_Get : fnIs Go.Proofs.Tryz.prog 18 20 res_file_File_Get ir_file_File_Get = true := by kernel_rfl
theorem file_File_Get_fn {f_0 n_1} {B0 B0_get_ : Nat} {s : Store} {Q : List AV → Store → Prop} (hB0 : s B0 = some (.cells [.int .i64 f_0.root_, .int .i64 f_0.count_, .fn 76 [] [.ref B0_get_ 0]])) (hB0_get_ : s B0_get_ = some (.cells [.sl false 6 f_0.get_.Objects.length (flat f_0.get_.Objects), .int .i64 f_0.get_.Root])) (nB0B0_get_ : B0 ≠ B0_get_) : ok (file_File_Get f_0 n_1) (fun r => Q [.agg [.int .i64 r.1.V.Kind, .int .i64 r.1.V.N, .str r.1.V.S.b, .sl false 4 r.1.V.L.length (flat r.1.V.L), .bool r.1.Stream, .str r.1.Data.b], .int .i64 r.2.1, .int .i64 r.2.2] s) → FN Go.Proofs.Tryz.prog 18 [.ref B0 0, .int .i64 n_1] s Q := by
  have hS : s = ((s.set B0 (.cells [.int .i64 f_0.root_, .int .i64 f_0.count_, .fn 76 [] [.ref B0_get_ 0]])).set B0_get_ (.cells [.sl false 6 f_0.get_.Objects.length (flat f_0.get_.Objects), .int .i64 f_0.get_.Root])) := by simp only [set_eq' hB0, set_eq' hB0_get_]
  rw [hS]
  intro h
  refine FN.of (draw_ok mix) is_file_File_Get rfl (Nat.le_of_ble_eq_true rfl) ?_
  revert h
  rw [ir_file_File_Get, res_file_File_Get, file_File_Get]
  repeat' (first
    | with_reducible exact tt_to
    | with_reducible refine and_to ?_ ?_
    | with_reducible refine im_to ?_
    | with_reducible refine call_to (fun _ (h : file_File_is f_0 = some _) => file_File_is_fe (B0 := B0) (B0_get_ := B0_get_) (by simp -implicitDefEqProofs only [go_sem, start, startE, resVs, resV, resC, allV, retK, Nat.reduceBEq, Nat.reduceAdd, Nat.reduceMul, Nat.reduceLeDiff, Nat.reduceEqDiff, Nat.reduceBNe, Nat.ble_eq, UInt8.reduceToNat, UInt32.reduceToNat, set_ne nB0B0_get_, set_ne nB0B0_get_.symm, set_comm nB0B0_get_, fnok_76] <;> simp only [encM_nil]) (by simp -implicitDefEqProofs only [go_sem, start, startE, resVs, resV, resC, allV, retK, Nat.reduceBEq, Nat.reduceAdd, Nat.reduceMul, Nat.reduceLeDiff, Nat.reduceEqDiff, Nat.reduceBNe, Nat.ble_eq, UInt8.reduceToNat, UInt32.reduceToNat, set_ne nB0B0_get_, set_ne nB0B0_get_.symm, set_comm nB0B0_get_, fnok_76] <;> simp only [encM_nil])  nB0B0_get_ h) (fun r1 => ?_)
    | with_reducible refine call_to (fun _ (h : file_Of_1 n_1 f_0.get_ = some _) => file_Of_1_fe (B1 := B0_get_) (by simp -implicitDefEqProofs only [go_sem, start, startE, resVs, resV, resC, allV, retK, Nat.reduceBEq, Nat.reduceAdd, Nat.reduceMul, Nat.reduceLeDiff, Nat.reduceEqDiff, Nat.reduceBNe, Nat.ble_eq, UInt8.reduceToNat, UInt32.reduceToNat, set_ne nB0B0_get_, set_ne nB0B0_get_.symm, set_comm nB0B0_get_, fnok_76] <;> simp only [encM_nil])   h) (fun r2 => ?_)
    | simp -implicitDefEqProofs only [go_sem, start, startE, resVs, resV, resC, allV, retK, Nat.reduceBEq, Nat.reduceAdd, Nat.reduceMul, Nat.reduceLeDiff, Nat.reduceEqDiff, Nat.reduceBNe, Nat.ble_eq, UInt8.reduceToNat, UInt32.reduceToNat, set_ne nB0B0_get_, set_ne nB0B0_get_.symm, set_comm nB0B0_get_, fnok_76])
theorem file_File_Get_fe {f_0 n_1} {B0 B0_get_ : Nat} {s : Store} {r : api_Object × Int × Int} (hB0 : s B0 = some (.cells [.int .i64 f_0.root_, .int .i64 f_0.count_, .fn 76 [] [.ref B0_get_ 0]])) (hB0_get_ : s B0_get_ = some (.cells [.sl false 6 f_0.get_.Objects.length (flat f_0.get_.Objects), .int .i64 f_0.get_.Root])) (nB0B0_get_ : B0 ≠ B0_get_) (h : file_File_Get f_0 n_1 = some r) : FE Go.Proofs.Tryz.prog 18 [.ref B0 0, .int .i64 n_1] s [.agg [.int .i64 r.1.V.Kind, .int .i64 r.1.V.N, .str r.1.V.S.b, .sl false 4 r.1.V.L.length (flat r.1.V.L), .bool r.1.Stream, .str r.1.Data.b], .int .i64 r.2.1, .int .i64 r.2.2] s := file_File_Get_fn hB0 hB0_get_ nB0B0_get_ ⟨r, h, rfl, rfl⟩
structure ref16_File where
  B : (List UInt8)
  Known : (List Bool)
instance : Enc ref16_File := ⟨2, fun x => [.sl false 1 x.B.length (flat x.B), .sl false 1 x.Known.length (flat x.Known)], (ref16_File.mk [] []), by decide, fun _ => rfl, fun _ => rfl⟩
@[go_sem] theorem cells_ref16_File (x : ref16_File) : Enc.cells x = [.sl false 1 x.B.length (flat x.B), .sl false 1 x.Known.length (flat x.Known)] := rfl
@[go_sem] theorem w_ref16_File : Enc.w ref16_File = 2 := rfl
@[go_sem] theorem pad_ref16_File (l : List ref16_File) (i : Int) : pad [.sl false 1 0 [], .sl false 1 0 []] (views (AB.sub (flat l) (i.toNat * 2) 2)) = [.sl false 1 ((ix l i).B).length (flat ((ix l i).B)), .sl false 1 ((ix l i).Known).length (flat ((ix l i).Known))] := by
  rw [← cells_ref16_File]; exact flat_pad _ 2 l i (by rw [cells_ref16_File]; rfl) rfl
@[go_sem] theorem mk_ref16_File (x : ref16_File) : ref16_File.mk x.B x.Known = x := by cases x; rfl
structure ref17_Table where
  Places : (List Int)
  Root : Int
instance : Enc ref17_Table := ⟨2, fun x => [.sl false 1 x.Places.length (flat x.Places), .int .i64 x.Root], (ref17_Table.mk [] 0), by decide, fun _ => rfl, fun _ => rfl⟩
@[go_sem] theorem cells_ref17_Table (x : ref17_Table) : Enc.cells x = [.sl false 1 x.Places.length (flat x.Places), .int .i64 x.Root] := rfl
@[go_sem] theorem w_ref17_Table : Enc.w ref17_Table = 2 := rfl
@[go_sem] theorem pad_ref17_Table (l : List ref17_Table) (i : Int) : pad [.sl false 1 0 [], .int .i64 0] (views (AB.sub (flat l) (i.toNat * 2) 2)) = [.sl false 1 ((ix l i).Places).length (flat ((ix l i).Places)), .int .i64 ((ix l i).Root)] := by
  rw [← cells_ref17_Table]; exact flat_pad _ 2 l i (by rw [cells_ref17_Table]; rfl) rfl
@[go_sem] theorem mk_ref17_Table (x : ref17_Table) : ref17_Table.mk x.Places x.Root = x := by cases x; rfl
structure ref19_File where
  Objects : (List api_Object)
  Bytes : ref16_File
  Table : ref17_Table
instance : Enc ref19_File := ⟨6, fun x => [.bool true, .sl false 6 x.Objects.length (flat x.Objects), .sl false 1 x.Bytes.B.length (flat x.Bytes.B), .sl false 1 x.Bytes.Known.length (flat x.Bytes.Known), .sl false 1 x.Table.Places.length (flat x.Table.Places), .int .i64 x.Table.Root], (ref19_File.mk [] (ref16_File.mk [] []) (ref17_Table.mk [] 0)), by decide, fun _ => rfl, fun _ => rfl⟩
@[go_sem] theorem cells_ref19_File (x : ref19_File) : Enc.cells x = [.bool true, .sl false 6 x.Objects.length (flat x.Objects), .sl false 1 x.Bytes.B.length (flat x.Bytes.B), .sl false 1 x.Bytes.Known.length (flat x.Bytes.Known), .sl false 1 x.Table.Places.length (flat x.Table.Places), .int .i64 x.Table.Root] := rfl
@[go_sem] theorem w_ref19_File : Enc.w ref19_File = 6 := rfl
@[go_sem] theorem mk_ref19_File (x : ref19_File) : ref19_File.mk x.Objects x.Bytes x.Table = x := by cases x; rfl
def ref19_Of (d_0 : api_Doc) : Option (ref19_File) :=
  some (ref19_File.mk d_0.Objects (ref16_File.mk ([] : List UInt8) ([] : List Bool)) (ref17_Table.mk ([] : List Int) d_0.Root))
def ir_ref19_Of : IC :=
 (.seq (.reg none [i1 1 (.boxL 2 (.t 0)),
 i1 2 (.allocL [.bool false, .sl true 6 0 [], .sl true 1 0 [], .sl true 1 0 [], .sl true 1 0 [], .int .i64 0])] [1, 2])
 (.seq (.reg none [i1 3 (.fieldAddr 0 (.t 1)),
 i1 4 (.load 1 false (.t 3)),
 i1 5 (.fieldAddr 1 (.t 1)),
 i1 6 (.load 1 false (.t 5)),
 i1 7 (.build [.sl true 1 0 [], .int .i64 0] [(1, 1, (.t 6))]),
 i1 8 (.build [.bool false, .sl true 6 0 [], .sl true 1 0 [], .sl true 1 0 [], .sl true 1 0 [], .int .i64 0] [(0, 1, (.c (.bool true))), (1, 1, (.t 4)), (4, 2, (.t 7))]),
 i0 (.store 6 (.t 2) (.t 8))] [2])
 .ret))
def res_ref19_Of : List IRes := [⟨2, false, some (6, true)⟩]
theorem is_ref19_Of : fnIs Go.Proofs.Tryz.prog 32 9 res_ref19_Of ir_ref19_Of = true := by kernel_rfl
theorem ref19_Of_fn {d_0} {s : Store} {Q : List AV → Store → Prop}  : ok (ref19_Of d_0) (fun r => Q [.agg [.bool true, .sl false 6 r.Objects.length (flat r.Objects), .sl false 1 r.Bytes.B.length (flat r.Bytes.B), .sl false 1 r.Bytes.Known.length (flat r.Bytes.Known), .sl false 1 r.Table.Places.length (flat r.Table.Places), .int .i64 r.Table.Root]] s) → FN Go.Proofs.Tryz.prog 32 [.agg [.sl false 6 d_0.Objects.length (flat d_0.Objects), .int .i64 d_0.Root]] s Q := by
  intro h
  refine FN.of (draw_ok mix) is_ref19_Of rfl (Nat.le_of_ble_eq_true rfl) ?_
  revert h
  rw [ir_ref19_Of, res_ref19_Of, ref19_Of]
  repeat' (first
    | simp -implicitDefEqProofs only [go_sem, start, startE, resVs, resV, resC, allV, retK, Nat.reduceBEq, Nat.reduceAdd, Nat.reduceMul, Nat.reduceLeDiff, Nat.reduceEqDiff, Nat.reduceBNe, Nat.ble_eq, UInt8.reduceToNat, UInt32.reduceToNat])
theorem ref19_Of_fe {d_0} {s : Store} {r : ref19_File}  (h : ref19_Of d_0 = some r) : FE Go.Proofs.Tryz.prog 32 [.agg [.sl false 6 d_0.Objects.length (flat d_0.Objects), .int .i64 d_0.Root]] s [.agg [.bool true, .sl false 6 r.Objects.length (flat r.Objects), .sl false 1 r.Bytes.B.length (flat r.Bytes.B), .sl false 1 r.Bytes.Known.length (flat r.Bytes.Known), .sl false 1 r.Table.Places.length (flat r.Table.Places), .int .i64 r.Table.Root]] s := ref19_Of_fn  ⟨r, h, rfl, rfl⟩
def ref16_Next (f_0 : ref16_File) (at_1 : Int) : Option (Int) :=
  jn (
    iter (fun (at2 : Int) =>
      need ((decide (at2 < (f_0.B.length : Int))) = true → 0 ≤ at2 ∧ at2 < f_0.Known.length) <|
      if (decide (at2 < (f_0.B.length : Int))) && (ix f_0.Known at2) then
        some (.inl (w64 (at2 + 1)))
      else
        some (.inr at2)) at_1) fun (at1 : Int) =>
  some at1
def ir_ref16_Next : IC :=
 (.seq (.reg none [i1 2 (.boxL 2 (.t 0)),
 i1 4 (.mov false (.c (.int .i64 0)))] [1, 2])
 (.join [(1, false)] (.block 0 (.loop [(1, false), (2, false)] (.seq (.seq (.reg none [mv 5 1,
 i1 6 (.fieldAddr 0 (.t 2)),
 i1 7 (.load 1 false (.t 6)),
 i1 8 (.len 0 (.t 7)),
 i1 9 (.bin .lss (.t 5) (.t 8)),
 mv 10 9,
 i1g 11 10 true (.fieldAddr 1 (.t 2)),
 i1g 12 10 true (.load 1 false (.t 11)),
 mvg 13 1 10 true,
 i1g 14 10 true (.indexAddr [.bool false] (.t 12) (.t 13)),
 i1g 15 10 true (.load 1 false (.t 14)),
 i1 16 (.pick (.t 10) (.t 15) (.c (.bool false)))] [1, 2, 16])
 (.cond (.t 16) .skip
 (.exit 0)))
 (.block 1 (.reg none [mv 17 1,
 i1 18 (.bin .add (.t 17) (.c (.int .i64 1))),
 mv 1 18] [1, 2])))))
 (.seq (.reg none [mv 19 1,
 mv 4 19] [4])
 .ret)))
def res_ref16_Next : List IRes := [⟨4, true, none⟩]
theorem is_ref16_Next : fnIs Go.Proofs.Tryz.prog 73 20 res_ref16_Next ir_ref16_Next = true := by kernel_rfl
theorem ref16_Next_fn {f_0 at_1} {s : Store} {Q : List AV → Store → Prop}  : ok (ref16_Next f_0 at_1) (fun r => Q [.int .i64 r] s) → FN Go.Proofs.Tryz.prog 73 [.agg [.sl false 1 f_0.B.length (flat f_0.B), .sl false 1 f_0.Known.length (flat f_0.Known)], .int .i64 at_1] s Q := by
  intro h
  refine FN.of (draw_ok mix) is_ref16_Next rfl (Nat.le_of_ble_eq_true rfl) ?_
  revert h
  rw [ir_ref16_Next, res_ref16_Next, ref16_Next]
  repeat' (first
    | ((with_reducible refine iter_to (fun (at2 : Int) => ⟨[(1, .int .i64 at2), (2, .loc [.sl false 1 f_0.B.length (flat f_0.B), .sl false 1 f_0.Known.length (flat f_0.Known)])], [], s⟩) ?_ ?_); (first | exact rfl | simp -implicitDefEqProofs only [go_sem, start, startE, resVs, resV, resC, allV, retK, Nat.reduceBEq, Nat.reduceAdd, Nat.reduceMul, Nat.reduceLeDiff, Nat.reduceEqDiff, Nat.reduceBNe, Nat.ble_eq, UInt8.reduceToNat, UInt32.reduceToNat]); rintro J at2)
    | ((with_reducible refine join_to (fun (at1 : Int) => ⟨[(1, .int .i64 at1)], [], s⟩) (fun J => ?_) ?_); rotate_left; rintro at1)
    | simp -implicitDefEqProofs only [go_sem, start, startE, resVs, resV, resC, allV, retK, Nat.reduceBEq, Nat.reduceAdd, Nat.reduceMul, Nat.reduceLeDiff, Nat.reduceEqDiff, Nat.reduceBNe, Nat.ble_eq, UInt8.reduceToNat, UInt32.reduceToNat])
theorem ref16_Next_fe {f_0 at_1} {s : Store} {r : Int}  (h : ref16_Next f_0 at_1 = some r) : FE Go.Proofs.Tryz.prog 73 [.agg [.sl false 1 f_0.B.length (flat f_0.B), .sl false 1 f_0.Known.length (flat f_0.Known)], .int .i64 at_1] s [.int .i64 r] s := ref16_Next_fn  ⟨r, h, rfl, rfl⟩
def ref19_Get (f_0 : ref19_File) (n_1 : Int) : Option (api_Object × Int × Int) :=
  if (decide (n_1 < 1)) || (decide (n_1 > (f_0.Objects.length : Int))) then
    some ((api_Object.mk (api_Value.mk 0 0 (Str.mk []) ([] : List api_Value)) false (Str.mk [])), 0, 0)
  else
    need (0 ≤ w64 (n_1 - 1) ∧ w64 (n_1 - 1) < f_0.Objects.length) <|
    some (ix f_0.Objects (w64 (n_1 - 1)), 0, 0)
def ir_ref19_Get : IC :=
 (.seq (.reg none [i1 2 (.boxL 6 (.t 0)),
 i1 4 (.allocL [.int .i64 0, .int .i64 0, .str [], .sl true 4 0 [], .bool false, .str []]),
 i1 5 (.mov false (.c (.int .i64 0))),
 i1 6 (.mov false (.c (.int .i64 0)))] [1, 2, 4])
 (.seq (.reg none [i1 7 (.allocL [.int .i64 0, .int .i64 0, .str [], .sl true 4 0 [], .bool false, .str []])] [1, 2, 4, 7])
 (.seq (.seq (.reg none [i1 16 (.fieldAddr 0 (.t 2)),
 i1 17 (.load 1 false (.t 16))] [1, 2, 4, 7, 17])
 (.cond (.t 17) (.seq (.seq (.reg none [mv 18 1,
 i1 19 (.bin .lss (.t 18) (.c (.int .i64 1))),
 mv 20 19,
 mvg 21 1 20 false,
 i1g 22 20 false (.fieldAddr 1 (.t 2)),
 i1g 23 20 false (.load 1 false (.t 22)),
 i1g 24 20 false (.len 0 (.t 23)),
 i1g 25 20 false (.bin .gtr (.t 21) (.t 24)),
 i1 26 (.pick (.t 20) (.c (.bool true)) (.t 25))] [1, 2, 4, 7, 26])
 (.cond (.t 26) (.seq (.reg none [i1 27 (.load 6 true (.t 7)),
 i0 (.store 6 (.t 4) (.t 27)),
 i1 5 (.mov false (.c (.int .i64 0))),
 i1 6 (.mov false (.c (.int .i64 0)))] [4, 5, 6])
 .ret)
 .skip))
 (.seq (.reg none [i1 28 (.fieldAddr 1 (.t 2)),
 i1 29 (.load 1 false (.t 28)),
 mv 30 1,
 i1 31 (.bin .sub (.t 30) (.c (.int .i64 1))),
 i1 32 (.indexAddr [.int .i64 0, .int .i64 0, .str [], .sl false 4 0 [], .bool false, .str []] (.t 29) (.t 31)),
 i1 33 (.load 6 true (.t 32)),
 i0 (.store 6 (.t 4) (.t 33)),
 i1 5 (.mov false (.c (.int .i64 0))),
 i1 6 (.mov false (.c (.int .i64 0)))] [4, 5, 6])
 .ret))
 .skip))
 (.seq (.reg none [i1 35 (.fieldAddr 4 (.t 2)),
 i1 36 (.load 2 true (.t 35)),
 mv 37 1,
 i1 38 (.call 70 [(.t 36), (.t 37)]),
 mv 34 38,
 i1 39 (.extract (.t 34) 0),
 i1 40 (.extract (.t 34) 1),
 mv 8 39,
 mv 9 40] [1, 2, 4, 7, 8, 9])
 (.seq (.seq (.reg none [mv 41 9,
 i1 42 (.un .not (.t 41))] [1, 2, 4, 7, 8, 42])
 (.cond (.t 42) (.seq (.reg none [i1 43 (.load 6 true (.t 7)),
 i0 (.store 6 (.t 4) (.t 43)),
 i1 5 (.mov false (.c (.int .i64 0))),
 i1 6 (.mov false (.c (.int .i64 0)))] [4, 5, 6])
 .ret)
 .skip))
 (.seq (.seq (.reg none [mv 44 8,
 i1 45 (.fieldAddr 2 (.t 2)),
 i1 46 (.fieldAddr 0 (.t 45)),
 i1 47 (.load 1 false (.t 46)),
 i1 48 (.len 0 (.t 47)),
 i1 49 (.bin .geq (.t 44) (.t 48))] [1, 2, 4, 7, 8, 49])
 (.cond (.t 49) (.seq (.reg none [i1 50 (.load 6 true (.t 7)),
 i0 (.store 6 (.t 4) (.t 50)),
 i1 5 (.mov false (.c (.int .i64 0))),
 i1 6 (.mov false (.c (.int .i64 18)))] [4, 5, 6])
 .ret)
 .skip))
 (.seq (.reg none [i1 52 (.fieldAddr 2 (.t 2)),
 i1 53 (.load 2 true (.t 52)),
 mv 54 8,
 i1 55 (.call 71 [(.t 53), (.t 54)]),
 mv 51 55,
 i1 56 (.extract (.t 51) 0),
 i1 57 (.extract (.t 51) 1),
 mt 10 56,
 mv 11 57] [1, 2, 4, 7, 8, 10, 11])
 (.seq (.reg none [mt 59 10,
 mv 60 11,
 i1 61 (.call 72 [(.t 59), (.c (.int .i64 0)), (.t 60)]),
 mv 58 61,
 i1 62 (.extract (.t 58) 0),
 i1 63 (.extract (.t 58) 1),
 i1 64 (.extract (.t 58) 2),
 i1 65 (.extract (.t 58) 3),
 i1 13 (.allocL [.int .i64 0, .int .i64 0, .str [], .sl true 4 0 [], .bool false, .str []]),
 mv 12 62,
 i0 (.store 6 (.t 13) (.t 63)),
 mv 14 64,
 mv 15 65] [1, 2, 4, 7, 8, 12, 13, 15])
 (.seq (.seq (.reg none [mv 66 15,
 i1 67 (.bin .eql (.t 66) (.c (.int .i64 6)))] [1, 2, 4, 7, 8, 12, 13, 15, 67])
 (.cond (.t 67) (.seq (.reg (some 5) [i1 68 (.load 6 true (.t 7)),
 i1 69 (.fieldAddr 2 (.t 2)),
 i1 70 (.load 2 true (.t 69)),
 mv 71 8,
 i1 72 (.call 73 [(.t 70), (.t 71)]),
 i0 (.store 6 (.t 4) (.t 68)),
 mv 5 72,
 i1 6 (.mov false (.c (.int .i64 6)))] [4, 5, 6])
 .ret)
 .skip))
 (.seq (.seq (.reg none [mv 73 15,
 i1 74 (.bin .neq (.t 73) (.c (.int .i64 0))),
 mv 75 74,
 mvg 76 12 75 false,
 mvg 77 1 75 false,
 i1g 78 75 false (.bin .neq (.t 76) (.t 77)),
 i1 79 (.pick (.t 75) (.c (.bool true)) (.t 78))] [4, 7, 13, 79])
 (.cond (.t 79) (.seq (.reg none [i1 80 (.load 6 true (.t 7)),
 i0 (.store 6 (.t 4) (.t 80)),
 i1 5 (.mov false (.c (.int .i64 0))),
 i1 6 (.mov false (.c (.int .i64 18)))] [4, 5, 6])
 .ret)
 .skip))
 (.seq (.reg none [i1 81 (.load 6 true (.t 13)),
 i0 (.store 6 (.t 4) (.t 81)),
 i1 5 (.mov false (.c (.int .i64 0))),
 i1 6 (.mov false (.c (.int .i64 0)))] [4, 5, 6])
 .ret)))))))))))
def res_ref19_Get : List IRes := [⟨4, false, some (6, true)⟩, ⟨5, true, none⟩, ⟨6, true, none⟩]
theorem is_ref19_Get : fnIs Go.Proofs.Tryz.prog 19 82 res_ref19_Get ir_ref19_Get = true := by kernel_rfl
theorem ref19_Get_fn {f_0 n_1} {s : Store} {Q : List AV → Store → Prop}  : ok (ref19_Get f_0 n_1) (fun r => Q [.agg [.int .i64 r.1.V.Kind, .int .i64 r.1.V.N, .str r.1.V.S.b, .sl false 4 r.1.V.L.length (flat r.1.V.L), .bool r.1.Stream, .str r.1.Data.b], .int .i64 r.2.1, .int .i64 r.2.2] s) → FN Go.Proofs.Tryz.prog 19 [.agg [.bool true, .sl false 6 f_0.Objects.length (flat f_0.Objects), .sl false 1 f_0.Bytes.B.length (flat f_0.Bytes.B), .sl false 1 f_0.Bytes.Known.length (flat f_0.Bytes.Known), .sl false 1 f_0.Table.Places.length (flat f_0.Table.Places), .int .i64 f_0.Table.Root], .int .i64 n_1] s Q := by
  intro h
  refine FN.of (draw_ok mix) is_ref19_Get rfl (Nat.le_of_ble_eq_true rfl) ?_
  revert h
  rw [ir_ref19_Get, res_ref19_Get, ref19_Get]
  repeat' (first
    | with_reducible exact tt_to
    | with_reducible refine lit_t2 ?_
    | simp -implicitDefEqProofs only [go_sem, start, startE, resVs, resV, resC, allV, retK, Nat.reduceBEq, Nat.reduceAdd, Nat.reduceMul, Nat.reduceLeDiff, Nat.reduceEqDiff, Nat.reduceBNe, Nat.ble_eq, UInt8.reduceToNat, UInt32.reduceToNat])
theorem ref19_Get_fe {f_0 n_1} {s : Store} {r : api_Object × Int × Int}  (h : ref19_Get f_0 n_1 = some r) : FE Go.Proofs.Tryz.prog 19 [.agg [.bool true, .sl false 6 f_0.Objects.length (flat f_0.Objects), .sl false 1 f_0.Bytes.B.length (flat f_0.Bytes.B), .sl false 1 f_0.Bytes.Known.length (flat f_0.Bytes.Known), .sl false 1 f_0.Table.Places.length (flat f_0.Table.Places), .int .i64 f_0.Table.Root], .int .i64 n_1] s [.agg [.int .i64 r.1.V.Kind, .int .i64 r.1.V.N, .str r.1.V.S.b, .sl false 4 r.1.V.L.length (flat r.1.V.L), .bool r.1.Stream, .str r.1.Data.b], .int .i64 r.2.1, .int .i64 r.2.2] s := ref19_Get_fn  ⟨r, h, rfl, rfl⟩
def file_File_All (f_0 : file_File) : Option ((List api_Object) × Int × Int) :=
  bnd (file_File_is f_0) fun r1 =>
  if !r1 then
    some (([] : List api_Object), 0, 1)
  else
    jnS (
      bndS (
        iter (fun ((out8, n9) : (List api_Object) × Int) =>
          if decide (n9 ≤ f_0.count_) then
            bnd (file_File_Get f_0 n9) fun r16 =>
            if r16.2.2 != 0 then
              some (.inr (.inr (([] : List api_Object), r16.2.1, r16.2.2)))
            else
              need ((out8.length + [r16.1].length) * 80 ≤ room) <|
              some (.inl (out8 ++ [r16.1], w64 (n9 + 1)))
          else
            some (.inr (.inl out8))) (([] : List api_Object), 1)) (fun (out10 : (List api_Object)) =>
        some (.inl out10))
      (fun ((t12, t13, t14) : (List api_Object) × Int × Int) => some (.inr (t12, t13, t14)))) (fun (out2 : (List api_Object)) =>
      some (out2, 0, 0))
    (fun ((t4, t5, t6) : (List api_Object) × Int × Int) => some (t4, t5, t6))
def ir_file_File_All : IC :=
 (.seq (.reg none [i1 2 (.mov true (.c (.sl true 6 0 []))),
 i1 3 (.mov false (.c (.int .i64 0))),
 i1 4 (.mov false (.c (.int .i64 0)))] [0])
 (.seq (.seq (.reg none [mv 10 0,
 i1 11 (.call 69 [(.t 10)]),
 i1 12 (.un .not (.t 11))] [0, 12])
 (.cond (.t 12) (.seq (.reg none [i1 2 (.mov true (.c (.sl true 6 0 []))),
 i1 3 (.mov false (.c (.int .i64 0))),
 i1 4 (.mov false (.c (.int .i64 1)))] [2, 3, 4])
 .ret)
 .skip))
 (.seq (.reg none [i1 5 (.mov true (.c (.sl true 6 0 [])))] [0, 5])
 (.join [(5, false)] (.seq (.reg none [i1 6 (.mov false (.c (.int .i64 1)))] [0, 5, 6])
 (.block 0 (.loop [(0, false), (5, false), (6, false)] (.seq (.seq (.reg none [mv 13 6,
 mv 14 0,
 i1 15 (.nilCheck (.t 14)),
 i1 16 (.fieldAddr 1 (.t 15)),
 i1 17 (.loadR [.int .i64 0] false (.t 16)),
 i1 18 (.bin .leq (.t 13) (.t 17))] [0, 5, 6, 18])
 (.cond (.t 18) .skip
 (.exit 0)))
 (.seq (.block 1 (.seq (.reg none [mv 22 0,
 mv 23 6,
 i1 24 (.call 18 [(.t 22), (.t 23)]),
 i1 21 (.movT (.t 24)),
 i1 25 (.extract (.t 21) 0),
 i1 26 (.extract (.t 21) 1),
 i1 27 (.extract (.t 21) 2),
 i1 7 (.allocL [.int .i64 0, .int .i64 0, .str [], .sl true 4 0 [], .bool false, .str []]),
 i0 (.store 6 (.t 7) (.t 25)),
 mv 8 26,
 mv 9 27] [0, 5, 6, 7, 8, 9])
 (.seq (.seq (.reg none [mv 28 9,
 i1 29 (.bin .neq (.t 28) (.c (.int .i64 0)))] [0, 5, 6, 7, 8, 9, 29])
 (.cond (.t 29) (.seq (.reg none [mv 30 8,
 mv 31 9,
 i1 2 (.mov true (.c (.sl true 6 0 []))),
 mv 3 30,
 mv 4 31] [2, 3, 4])
 .ret)
 .skip))
 (.reg none [mt 32 5,
 i1 33 (.load 6 true (.t 7)),
 i1 34 (.buildSl 6 1 [.int .i64 0, .int .i64 0, .str [], .sl true 4 0 [], .bool false, .str []] [(0, 6, (.t 33))]),
 i1 35 (.append 6 80 (.t 32) (.t 34)),
 mt 5 35] [0, 5, 6]))))
 (.reg none [mv 19 6,
 i1 20 (.bin .add (.t 19) (.c (.int .i64 1))),
 mv 6 20] [0, 5, 6]))))))
 (.seq (.reg none [mt 36 5,
 mt 2 36,
 i1 3 (.mov false (.c (.int .i64 0))),
 i1 4 (.mov false (.c (.int .i64 0)))] [2, 3, 4])
 .ret)))))
def res_file_File_All : List IRes := [⟨2, true, none⟩, ⟨3, true, none⟩, ⟨4, true, none⟩]
theorem is_file_File_All : fnIs Go.Proofs.Tryz.prog 27 37 res_file_File_All ir_file_File_All = true := by kernel_rfl
theorem file_File_All_fn {f_0} {B0 B0_get_ : Nat} {s : Store} {Q : List AV → Store → Prop} (hB0 : s B0 = some (.cells [.int .i64 f_0.root_, .int .i64 f_0.count_, .fn 76 [] [.ref B0_get_ 0]])) (hB0_get_ : s B0_get_ = some (.cells [.sl false 6 f_0.get_.Objects.length (flat f_0.get_.Objects), .int .i64 f_0.get_.Root])) (nB0B0_get_ : B0 ≠ B0_get_) : ok (file_File_All f_0) (fun r => Q [.sl true 6 r.1.length (flat r.1), .int .i64 r.2.1, .int .i64 r.2.2] s) → FN Go.Proofs.Tryz.prog 27 [.ref B0 0] s Q := by
  have hS : s = ((s.set B0 (.cells [.int .i64 f_0.root_, .int .i64 f_0.count_, .fn 76 [] [.ref B0_get_ 0]])).set B0_get_ (.cells [.sl false 6 f_0.get_.Objects.length (flat f_0.get_.Objects), .int .i64 f_0.get_.Root])) := by simp only [set_eq' hB0, set_eq' hB0_get_]
  rw [hS]
  intro h
  refine FN.of (draw_ok mix) is_file_File_All rfl (Nat.le_of_ble_eq_true rfl) ?_
  revert h
  rw [ir_file_File_All, res_file_File_All, file_File_All]
  repeat' (first
    | with_reducible exact tt_to
    | with_reducible refine and_to ?_ ?_
    | with_reducible refine im_to ?_
    | with_reducible refine call_to (fun _ (h : file_File_is f_0 = some _) => file_File_is_fe (B0 := B0) (B0_get_ := B0_get_) (by simp -implicitDefEqProofs only [go_sem, start, startE, resVs, resV, resC, allV, retK, Nat.reduceBEq, Nat.reduceAdd, Nat.reduceMul, Nat.reduceLeDiff, Nat.reduceEqDiff, Nat.reduceBNe, Nat.ble_eq, UInt8.reduceToNat, UInt32.reduceToNat, set_ne nB0B0_get_, set_ne nB0B0_get_.symm, set_comm nB0B0_get_] <;> simp only [encM_nil]) (by simp -implicitDefEqProofs only [go_sem, start, startE, resVs, resV, resC, allV, retK, Nat.reduceBEq, Nat.reduceAdd, Nat.reduceMul, Nat.reduceLeDiff, Nat.reduceEqDiff, Nat.reduceBNe, Nat.ble_eq, UInt8.reduceToNat, UInt32.reduceToNat, set_ne nB0B0_get_, set_ne nB0B0_get_.symm, set_comm nB0B0_get_] <;> simp only [encM_nil])  nB0B0_get_ h) (fun r1 => ?_)
    | with_reducible refine call_to (fun _ (h : file_File_Get f_0 n9 = some _) => file_File_Get_fe (B0 := B0) (B0_get_ := B0_get_) (by simp -implicitDefEqProofs only [go_sem, start, startE, resVs, resV, resC, allV, retK, Nat.reduceBEq, Nat.reduceAdd, Nat.reduceMul, Nat.reduceLeDiff, Nat.reduceEqDiff, Nat.reduceBNe, Nat.ble_eq, UInt8.reduceToNat, UInt32.reduceToNat, set_ne nB0B0_get_, set_ne nB0B0_get_.symm, set_comm nB0B0_get_] <;> simp only [encM_nil]) (by simp -implicitDefEqProofs only [go_sem, start, startE, resVs, resV, resC, allV, retK, Nat.reduceBEq, Nat.reduceAdd, Nat.reduceMul, Nat.reduceLeDiff, Nat.reduceEqDiff, Nat.reduceBNe, Nat.ble_eq, UInt8.reduceToNat, UInt32.reduceToNat, set_ne nB0B0_get_, set_ne nB0B0_get_.symm, set_comm nB0B0_get_] <;> simp only [encM_nil])  nB0B0_get_ h) (fun r16 => ?_)
    | ((with_reducible refine iter_to (fun ((out8, n9) : (List api_Object) × Int) => ⟨[(0, .ref B0 0), (5, .sl true 6 out8.length (flat out8)), (6, .int .i64 n9)], [], ((s.set B0 (.cells [.int .i64 f_0.root_, .int .i64 f_0.count_, .fn 76 [] [.ref B0_get_ 0]])).set B0_get_ (.cells [.sl false 6 f_0.get_.Objects.length (flat f_0.get_.Objects), .int .i64 f_0.get_.Root]))⟩) ?_ ?_); (first | exact rfl | simp -implicitDefEqProofs only [go_sem, start, startE, resVs, resV, resC, allV, retK, Nat.reduceBEq, Nat.reduceAdd, Nat.reduceMul, Nat.reduceLeDiff, Nat.reduceEqDiff, Nat.reduceBNe, Nat.ble_eq, UInt8.reduceToNat, UInt32.reduceToNat, set_ne nB0B0_get_, set_ne nB0B0_get_.symm, set_comm nB0B0_get_]); rintro J ⟨out8, n9⟩)
    | ((with_reducible refine join_toS (fun (out2 : (List api_Object)) => ⟨[(5, .sl true 6 out2.length (flat out2))], [], ((s.set B0 (.cells [.int .i64 f_0.root_, .int .i64 f_0.count_, .fn 76 [] [.ref B0_get_ 0]])).set B0_get_ (.cells [.sl false 6 f_0.get_.Objects.length (flat f_0.get_.Objects), .int .i64 f_0.get_.Root]))⟩) (fun J => ?_) ?_); rotate_left; rintro out2)
    | simp -implicitDefEqProofs only [go_sem, start, startE, resVs, resV, resC, allV, retK, Nat.reduceBEq, Nat.reduceAdd, Nat.reduceMul, Nat.reduceLeDiff, Nat.reduceEqDiff, Nat.reduceBNe, Nat.ble_eq, UInt8.reduceToNat, UInt32.reduceToNat, set_ne nB0B0_get_, set_ne nB0B0_get_.symm, set_comm nB0B0_get_])
theorem file_File_All_fe {f_0} {B0 B0_get_ : Nat} {s : Store} {r : (List api_Object) × Int × Int} (hB0 : s B0 = some (.cells [.int .i64 f_0.root_, .int .i64 f_0.count_, .fn 76 [] [.ref B0_get_ 0]])) (hB0_get_ : s B0_get_ = some (.cells [.sl false 6 f_0.get_.Objects.length (flat f_0.get_.Objects), .int .i64 f_0.get_.Root])) (nB0B0_get_ : B0 ≠ B0_get_) (h : file_File_All f_0 = some r) : FE Go.Proofs.Tryz.prog 27 [.ref B0 0] s [.sl true 6 r.1.length (flat r.1), .int .i64 r.2.1, .int .i64 r.2.2] s := file_File_All_fn hB0 hB0_get_ nB0B0_get_ ⟨r, h, rfl, rfl⟩
def ref19_Same (a_0 : (List api_Object)) (b_1 : (List api_Object)) : Option (Bool) :=
  if (a_0.length : Int) != (b_1.length : Int) then
    some false
  else
    jnS (
      bndS (
        iter (fun (k2 : Int) =>
          if decide (k2 < (a_0.length : Int)) then
            need (0 ≤ k2 ∧ k2 < a_0.length) <|
            need (0 ≤ k2 ∧ k2 < b_1.length) <|
            bnd (ref14_Same (ix a_0 k2) (ix b_1 k2)) fun r4 =>
            if !r4 then
              some (.inr (.inr false))
            else
              some (.inl (w64 (k2 + 1)))
          else
            some (.inr (.inl ()))) 0) (fun (_ : Unit) =>
        some (.inl ()))
      (fun (t3 : Bool) => some (.inr t3))) (fun (_ : Unit) =>
      some true)
    (fun (t1 : Bool) => some t1)
def ir_ref19_Same : IC :=
 (.seq (.reg none [i1 4 (.mov false (.c (.bool false)))] [0, 1])
 (.seq (.seq (.reg none [mv 6 0,
 i1 7 (.len 0 (.t 6)),
 mv 8 1,
 i1 9 (.len 0 (.t 8)),
 i1 10 (.bin .neq (.t 7) (.t 9))] [0, 1, 10])
 (.cond (.t 10) (.seq (.reg none [i1 4 (.mov false (.c (.bool false)))] [4])
 .ret)
 .skip))
 (.join [] (.seq (.reg none [i1 5 (.mov false (.c (.int .i64 0)))] [0, 1, 5])
 (.block 0 (.loop [(0, true), (1, true), (5, false)] (.seq (.seq (.reg none [mv 11 5,
 mv 12 0,
 i1 13 (.len 0 (.t 12)),
 i1 14 (.bin .lss (.t 11) (.t 13))] [0, 1, 5, 14])
 (.cond (.t 14) .skip
 (.exit 0)))
 (.seq (.block 1 (.seq (.reg (some 10) [mv 17 0,
 mv 18 5,
 i1 19 (.indexAddr [.int .i64 0, .int .i64 0, .str [], .sl false 4 0 [], .bool false, .str []] (.t 17) (.t 18)),
 i1 20 (.load 6 true (.t 19)),
 mv 21 1,
 mv 22 5,
 i1 23 (.indexAddr [.int .i64 0, .int .i64 0, .str [], .sl false 4 0 [], .bool false, .str []] (.t 21) (.t 22)),
 i1 24 (.load 6 true (.t 23)),
 i1 25 (.call 22 [(.t 20), (.t 24)]),
 i1 26 (.un .not (.t 25))] [0, 1, 5, 26])
 (.cond (.t 26) (.seq (.reg none [i1 4 (.mov false (.c (.bool false)))] [4])
 .ret)
 .skip)))
 (.reg none [mv 15 5,
 i1 16 (.bin .add (.t 15) (.c (.int .i64 1))),
 mv 5 16] [0, 1, 5]))))))
 (.seq (.reg none [i1 4 (.mov false (.c (.bool true)))] [4])
 .ret))))
def res_ref19_Same : List IRes := [⟨4, true, none⟩]
theorem is_ref19_Same : fnIs Go.Proofs.Tryz.prog 29 27 res_ref19_Same ir_ref19_Same = true := by kernel_rfl
theorem ref19_Same_fn {a_0 b_1} {s : Store} {Q : List AV → Store → Prop}  : ok (ref19_Same a_0 b_1) (fun r => Q [.bool r] s) → FN Go.Proofs.Tryz.prog 29 [.sl false 6 a_0.length (flat a_0), .sl false 6 b_1.length (flat b_1)] s Q := by
  intro h
  refine FN.of (draw_ok mix) is_ref19_Same rfl (Nat.le_of_ble_eq_true rfl) ?_
  revert h
  rw [ir_ref19_Same, res_ref19_Same, ref19_Same]
  repeat' (first
    | with_reducible exact tt_to
    | with_reducible refine and_to ?_ ?_
    | with_reducible refine im_to ?_
    | with_reducible refine call_to_q (fun _ (h : ref14_Same (ix a_0 k2) (ix b_1 k2) = some _) => ref14_Same_fe h) (fun _ => rfl) (fun r4 => ?_)
    | ((with_reducible refine iter_to (fun (k2 : Int) => ⟨[(0, .sl false 6 a_0.length (flat a_0)), (1, .sl false 6 b_1.length (flat b_1)), (5, .int .i64 k2)], [], s⟩) ?_ ?_); (first | exact rfl | simp -implicitDefEqProofs only [go_sem, start, startE, resVs, resV, resC, allV, retK, Nat.reduceBEq, Nat.reduceAdd, Nat.reduceMul, Nat.reduceLeDiff, Nat.reduceEqDiff, Nat.reduceBNe, Nat.ble_eq, UInt8.reduceToNat, UInt32.reduceToNat]); rintro J k2)
    | ((with_reducible refine join_toS (fun (_ : Unit) => ⟨[], [], s⟩) (fun J => ?_) ?_); rotate_left; rintro _)
    | simp -implicitDefEqProofs only [go_sem, start, startE, resVs, resV, resC, allV, retK, Nat.reduceBEq, Nat.reduceAdd, Nat.reduceMul, Nat.reduceLeDiff, Nat.reduceEqDiff, Nat.reduceBNe, Nat.ble_eq, UInt8.reduceToNat, UInt32.reduceToNat])
theorem ref19_Same_fe {a_0 b_1} {s : Store} {r : Bool}  (h : ref19_Same a_0 b_1 = some r) : FE Go.Proofs.Tryz.prog 29 [.sl false 6 a_0.length (flat a_0), .sl false 6 b_1.length (flat b_1)] s [.bool r] s := ref19_Same_fn  ⟨r, h, rfl, rfl⟩
def file_File_Root (f_0 : file_File) : Option (Int) :=
  bnd (file_File_is f_0) fun r1 =>
  if !r1 then
    some 0
  else
    some f_0.root_
def ir_file_File_Root : IC :=
 (.seq (.reg none [i1 2 (.mov false (.c (.int .i64 0)))] [0])
 (.seq (.seq (.reg none [mv 3 0,
 i1 4 (.call 69 [(.t 3)]),
 i1 5 (.un .not (.t 4))] [0, 5])
 (.cond (.t 5) (.seq (.reg none [i1 2 (.mov false (.c (.int .i64 0)))] [2])
 .ret)
 .skip))
 (.seq (.reg none [mv 6 0,
 i1 7 (.nilCheck (.t 6)),
 i1 8 (.fieldAddr 0 (.t 7)),
 i1 9 (.loadR [.int .i64 0] false (.t 8)),
 mv 2 9] [2])
 .ret)))
def res_file_File_Root : List IRes := [⟨2, true, none⟩]
theorem is_file_File_Root : fnIs Go.Proofs.Tryz.prog 23 10 res_file_File_Root ir_file_File_Root = true := by kernel_rfl
theorem file_File_Root_fn {f_0} {B0 B0_get_ : Nat} {s : Store} {Q : List AV → Store → Prop} (hB0 : s B0 = some (.cells [.int .i64 f_0.root_, .int .i64 f_0.count_, .fn 76 [] [.ref B0_get_ 0]])) (hB0_get_ : s B0_get_ = some (.cells [.sl false 6 f_0.get_.Objects.length (flat f_0.get_.Objects), .int .i64 f_0.get_.Root])) (nB0B0_get_ : B0 ≠ B0_get_) : ok (file_File_Root f_0) (fun r => Q [.int .i64 r] s) → FN Go.Proofs.Tryz.prog 23 [.ref B0 0] s Q := by
  have hS : s = ((s.set B0 (.cells [.int .i64 f_0.root_, .int .i64 f_0.count_, .fn 76 [] [.ref B0_get_ 0]])).set B0_get_ (.cells [.sl false 6 f_0.get_.Objects.length (flat f_0.get_.Objects), .int .i64 f_0.get_.Root])) := by simp only [set_eq' hB0, set_eq' hB0_get_]
  rw [hS]
  intro h
  refine FN.of (draw_ok mix) is_file_File_Root rfl (Nat.le_of_ble_eq_true rfl) ?_
  revert h
  rw [ir_file_File_Root, res_file_File_Root, file_File_Root]
  repeat' (first
    | with_reducible refine call_to (fun _ (h : file_File_is f_0 = some _) => file_File_is_fe (B0 := B0) (B0_get_ := B0_get_) (by simp -implicitDefEqProofs only [go_sem, start, startE, resVs, resV, resC, allV, retK, Nat.reduceBEq, Nat.reduceAdd, Nat.reduceMul, Nat.reduceLeDiff, Nat.reduceEqDiff, Nat.reduceBNe, Nat.ble_eq, UInt8.reduceToNat, UInt32.reduceToNat, set_ne nB0B0_get_, set_ne nB0B0_get_.symm, set_comm nB0B0_get_] <;> simp only [encM_nil]) (by simp -implicitDefEqProofs only [go_sem, start, startE, resVs, resV, resC, allV, retK, Nat.reduceBEq, Nat.reduceAdd, Nat.reduceMul, Nat.reduceLeDiff, Nat.reduceEqDiff, Nat.reduceBNe, Nat.ble_eq, UInt8.reduceToNat, UInt32.reduceToNat, set_ne nB0B0_get_, set_ne nB0B0_get_.symm, set_comm nB0B0_get_] <;> simp only [encM_nil])  nB0B0_get_ h) (fun r1 => ?_)
    | simp -implicitDefEqProofs only [go_sem, start, startE, resVs, resV, resC, allV, retK, Nat.reduceBEq, Nat.reduceAdd, Nat.reduceMul, Nat.reduceLeDiff, Nat.reduceEqDiff, Nat.reduceBNe, Nat.ble_eq, UInt8.reduceToNat, UInt32.reduceToNat, set_ne nB0B0_get_, set_ne nB0B0_get_.symm, set_comm nB0B0_get_])
theorem file_File_Root_fe {f_0} {B0 B0_get_ : Nat} {s : Store} {r : Int} (hB0 : s B0 = some (.cells [.int .i64 f_0.root_, .int .i64 f_0.count_, .fn 76 [] [.ref B0_get_ 0]])) (hB0_get_ : s B0_get_ = some (.cells [.sl false 6 f_0.get_.Objects.length (flat f_0.get_.Objects), .int .i64 f_0.get_.Root])) (nB0B0_get_ : B0 ≠ B0_get_) (h : file_File_Root f_0 = some r) : FE Go.Proofs.Tryz.prog 23 [.ref B0 0] s [.int .i64 r] s := file_File_Root_fn hB0 hB0_get_ nB0B0_get_ ⟨r, h, rfl, rfl⟩
def file_File_Count (f_0 : file_File) : Option (Int) :=
  bnd (file_File_is f_0) fun r1 =>
  if !r1 then
    some 0
  else
    some f_0.count_
def ir_file_File_Count : IC :=
 (.seq (.reg none [i1 2 (.mov false (.c (.int .i64 0)))] [0])
 (.seq (.seq (.reg none [mv 3 0,
 i1 4 (.call 69 [(.t 3)]),
 i1 5 (.un .not (.t 4))] [0, 5])
 (.cond (.t 5) (.seq (.reg none [i1 2 (.mov false (.c (.int .i64 0)))] [2])
 .ret)
 .skip))
 (.seq (.reg none [mv 6 0,
 i1 7 (.nilCheck (.t 6)),
 i1 8 (.fieldAddr 1 (.t 7)),
 i1 9 (.loadR [.int .i64 0] false (.t 8)),
 mv 2 9] [2])
 .ret)))
def res_file_File_Count : List IRes := [⟨2, true, none⟩]
theorem is_file_File_Count : fnIs Go.Proofs.Tryz.prog 24 10 res_file_File_Count ir_file_File_Count = true := by kernel_rfl
theorem file_File_Count_fn {f_0} {B0 B0_get_ : Nat} {s : Store} {Q : List AV → Store → Prop} (hB0 : s B0 = some (.cells [.int .i64 f_0.root_, .int .i64 f_0.count_, .fn 76 [] [.ref B0_get_ 0]])) (hB0_get_ : s B0_get_ = some (.cells [.sl false 6 f_0.get_.Objects.length (flat f_0.get_.Objects), .int .i64 f_0.get_.Root])) (nB0B0_get_ : B0 ≠ B0_get_) : ok (file_File_Count f_0) (fun r => Q [.int .i64 r] s) → FN Go.Proofs.Tryz.prog 24 [.ref B0 0] s Q := by
  have hS : s = ((s.set B0 (.cells [.int .i64 f_0.root_, .int .i64 f_0.count_, .fn 76 [] [.ref B0_get_ 0]])).set B0_get_ (.cells [.sl false 6 f_0.get_.Objects.length (flat f_0.get_.Objects), .int .i64 f_0.get_.Root])) := by simp only [set_eq' hB0, set_eq' hB0_get_]
  rw [hS]
  intro h
  refine FN.of (draw_ok mix) is_file_File_Count rfl (Nat.le_of_ble_eq_true rfl) ?_
  revert h
  rw [ir_file_File_Count, res_file_File_Count, file_File_Count]
  repeat' (first
    | with_reducible refine call_to (fun _ (h : file_File_is f_0 = some _) => file_File_is_fe (B0 := B0) (B0_get_ := B0_get_) (by simp -implicitDefEqProofs only [go_sem, start, startE, resVs, resV, resC, allV, retK, Nat.reduceBEq, Nat.reduceAdd, Nat.reduceMul, Nat.reduceLeDiff, Nat.reduceEqDiff, Nat.reduceBNe, Nat.ble_eq, UInt8.reduceToNat, UInt32.reduceToNat, set_ne nB0B0_get_, set_ne nB0B0_get_.symm, set_comm nB0B0_get_] <;> simp only [encM_nil]) (by simp -implicitDefEqProofs only [go_sem, start, startE, resVs, resV, resC, allV, retK, Nat.reduceBEq, Nat.reduceAdd, Nat.reduceMul, Nat.reduceLeDiff, Nat.reduceEqDiff, Nat.reduceBNe, Nat.ble_eq, UInt8.reduceToNat, UInt32.reduceToNat, set_ne nB0B0_get_, set_ne nB0B0_get_.symm, set_comm nB0B0_get_] <;> simp only [encM_nil])  nB0B0_get_ h) (fun r1 => ?_)
    | simp -implicitDefEqProofs only [go_sem, start, startE, resVs, resV, resC, allV, retK, Nat.reduceBEq, Nat.reduceAdd, Nat.reduceMul, Nat.reduceLeDiff, Nat.reduceEqDiff, Nat.reduceBNe, Nat.ble_eq, UInt8.reduceToNat, UInt32.reduceToNat, set_ne nB0B0_get_, set_ne nB0B0_get_.symm, set_comm nB0B0_get_])
theorem file_File_Count_fe {f_0} {B0 B0_get_ : Nat} {s : Store} {r : Int} (hB0 : s B0 = some (.cells [.int .i64 f_0.root_, .int .i64 f_0.count_, .fn 76 [] [.ref B0_get_ 0]])) (hB0_get_ : s B0_get_ = some (.cells [.sl false 6 f_0.get_.Objects.length (flat f_0.get_.Objects), .int .i64 f_0.get_.Root])) (nB0B0_get_ : B0 ≠ B0_get_) (h : file_File_Count f_0 = some r) : FE Go.Proofs.Tryz.prog 24 [.ref B0 0] s [.int .i64 r] s := file_File_Count_fn hB0 hB0_get_ nB0B0_get_ ⟨r, h, rfl, rfl⟩
def law19_FileDocs (d_0 : api_Doc) (n_1 : Int) : Option (Bool) :=
  bnd (ref19_Few d_0.Objects 30) fun r1 =>
  if !r1 then
    bnd (law19_works) fun r2 =>
    some r2
  else
    bnd (file_Of d_0) fun r3 =>
    bnd (file_File_Get r3 n_1) fun r4 =>
    bnd (ref19_Of d_0) fun r5 =>
    bnd (ref19_Get r5 n_1) fun r6 =>
    bnd (file_File_All r3) fun r7 =>
    bnd (ref14_Same r4.1 r6.1) fun r8 =>
    bnd (whenB ((r8 && (r4.2.1 == 0)) && (r4.2.2 == 0)) false (ref19_Same r7.1 d_0.Objects)) fun r9 =>
    bnd (whenB (((((r8 && (r4.2.1 == 0)) && (r4.2.2 == 0)) && r9) && (r7.2.1 == 0)) && (r7.2.2 == 0)) 0 (file_File_Root r3)) fun r10 =>
    bnd (whenB ((((((r8 && (r4.2.1 == 0)) && (r4.2.2 == 0)) && r9) && (r7.2.1 == 0)) && (r7.2.2 == 0)) && (r10 == d_0.Root)) 0 (file_File_Count r3)) fun r11 =>
    bnd (whenB (((((((r8 && (r4.2.1 == 0)) && (r4.2.2 == 0)) && r9) && (r7.2.1 == 0)) && (r7.2.2 == 0)) && (r10 == d_0.Root)) && (r11 == (d_0.Objects.length : Int))) false (law19_works)) fun r12 =>
    some ((((((((r8 && (r4.2.1 == 0)) && (r4.2.2 == 0)) && r9) && (r7.2.1 == 0)) && (r7.2.2 == 0)) && (r10 == d_0.Root)) && (r11 == (d_0.Objects.length : Int))) && r12)
def ir_law19_FileDocs : IC :=
 (.seq (.reg none [i1 2 (.boxL 2 (.t 0)),
 i1 4 (.mov false (.c (.bool false)))] [1, 2])
 (.seq (.seq (.reg none [i1 15 (.fieldAddr 0 (.t 2)),
 i1 16 (.load 1 false (.t 15)),
 i1 17 (.call 30 [(.t 16), (.c (.int .i64 30))]),
 i1 18 (.un .not (.t 17))] [1, 2, 18])
 (.cond (.t 18) (.seq (.reg none [i1 19 (.call 15 []),
 mv 4 19] [4])
 .ret)
 .skip))
 (.seq (.reg none [i1 20 (.load 2 true (.t 2)),
 i1 21 (.call 31 [(.t 20)]),
 mv 5 21] [1, 2, 5])
 (.seq (.reg none [mv 23 5,
 mv 24 1,
 i1 25 (.call 18 [(.t 23), (.t 24)]),
 i1 22 (.movT (.t 25)),
 i1 26 (.extract (.t 22) 0),
 i1 27 (.extract (.t 22) 1),
 i1 28 (.extract (.t 22) 2),
 i1 6 (.allocL [.int .i64 0, .int .i64 0, .str [], .sl true 4 0 [], .bool false, .str []]),
 i0 (.store 6 (.t 6) (.t 26)),
 mv 7 27,
 mv 8 28] [1, 2, 5, 6, 7, 8])
 (.seq (.reg none [i1 30 (.load 2 true (.t 2)),
 i1 31 (.call 32 [(.t 30)]),
 mv 32 1,
 i1 33 (.call 19 [(.t 31), (.t 32)]),
 i1 29 (.movT (.t 33)),
 i1 34 (.extract (.t 29) 0),
 i1 35 (.extract (.t 29) 1),
 i1 36 (.extract (.t 29) 2),
 i1 9 (.allocL [.int .i64 0, .int .i64 0, .str [], .sl true 4 0 [], .bool false, .str []]),
 i0 (.store 6 (.t 9) (.t 34)),
 mv 10 35,
 mv 11 36] [2, 5, 6, 7, 8, 9])
 (.seq (.reg none [mv 38 5,
 i1 39 (.call 27 [(.t 38)]),
 i1 37 (.movT (.t 39)),
 i1 40 (.extract (.t 37) 0),
 i1 41 (.extract (.t 37) 1),
 i1 42 (.extract (.t 37) 2),
 mt 12 40,
 mv 13 41,
 mv 14 42] [2, 5, 6, 7, 8, 9, 12, 13, 14])
 (.seq (.reg (some 44) [i1 43 (.load 6 true (.t 6)),
 i1 44 (.load 6 true (.t 9)),
 i1 45 (.call 22 [(.t 43), (.t 44)]),
 mv 46 45,
 mvg 47 7 46 true,
 i1g 48 46 true (.bin .eql (.t 47) (.c (.int .i64 0))),
 i1 49 (.pick (.t 46) (.t 48) (.c (.bool false))),
 mv 50 49,
 mvg 51 8 50 true,
 i1g 52 50 true (.bin .eql (.t 51) (.c (.int .i64 0))),
 i1 53 (.pick (.t 50) (.t 52) (.c (.bool false))),
 mv 54 53,
 mvg 55 12 54 true,
 i1g 56 54 true (.fieldAddr 0 (.t 2)),
 i1g 57 54 true (.load 1 false (.t 56)),
 i1g 58 54 true (.call 29 [(.t 55), (.t 57)]),
 i1 59 (.pick (.t 54) (.t 58) (.c (.bool false))),
 mv 60 59,
 mvg 61 13 60 true,
 i1g 62 60 true (.bin .eql (.t 61) (.c (.int .i64 0))),
 i1 63 (.pick (.t 60) (.t 62) (.c (.bool false))),
 mv 64 63,
 mvg 65 14 64 true,
 i1g 66 64 true (.bin .eql (.t 65) (.c (.int .i64 0))),
 i1 67 (.pick (.t 64) (.t 66) (.c (.bool false))),
 mv 68 67,
 mvg 69 5 68 true,
 i1g 70 68 true (.call 23 [(.t 69)]),
 i1g 71 68 true (.fieldAddr 1 (.t 2)),
 i1g 72 68 true (.load 1 false (.t 71)),
 i1g 73 68 true (.bin .eql (.t 70) (.t 72)),
 i1 74 (.pick (.t 68) (.t 73) (.c (.bool false))),
 mv 75 74,
 mvg 76 5 75 true,
 i1g 77 75 true (.call 24 [(.t 76)]),
 i1g 78 75 true (.fieldAddr 0 (.t 2)),
 i1g 79 75 true (.load 1 false (.t 78)),
 i1g 80 75 true (.len 0 (.t 79)),
 i1g 81 75 true (.bin .eql (.t 77) (.t 80)),
 i1 82 (.pick (.t 75) (.t 81) (.c (.bool false))),
 mv 83 82,
 i1g 84 83 true (.call 15 []),
 i1 85 (.pick (.t 83) (.t 84) (.c (.bool false))),
 mv 4 85] [4])
 .ret)))))))
def res_law19_FileDocs : List IRes := [⟨4, true, none⟩]
theorem is_law19_FileDocs : fnIs Go.Proofs.Tryz.prog 6 86 res_law19_FileDocs ir_law19_FileDocs = true := by kernel_rfl
theorem law19_FileDocs_fn {d_0 n_1} {s : Store} {Q : List AV → Store → Prop}  : ok (law19_FileDocs d_0 n_1) (fun r => Q [.bool r] s) → FN Go.Proofs.Tryz.prog 6 [.agg [.sl false 6 d_0.Objects.length (flat d_0.Objects), .int .i64 d_0.Root], .int .i64 n_1] s Q := by
  intro h
  refine FN.forget ?_
  refine FN.of (draw_ok mix) is_law19_FileDocs rfl (Nat.le_of_ble_eq_true rfl) ?_
  revert h
  rw [ir_law19_FileDocs, res_law19_FileDocs, law19_FileDocs]
  repeat' (first
    | with_reducible refine and_to ?_ ?_
    | with_reducible refine im_to ?_
    | with_reducible refine call_to (fun _ (h : ref19_Few d_0.Objects 30 = some _) => ref19_Few_fe h) (fun r1 => ?_)
    | ((fail_if_success (have _x := r2)); with_reducible refine call_to (fun _ (h : law19_works = some _) => law19_works_fe h) (fun r2 => ?_))
    | with_reducible refine fun hh => file_Of_fn (ok_mono (show ok (file_Of d_0) _ from hh) fun r3 => ?_)
    | with_reducible refine call_to (fun _ (h : file_File_Get r3 n_1 = some _) => file_File_Get_fe (B0 := N2) (B0_get_ := N1) (by simp -implicitDefEqProofs only [go_sem, start, startE, resVs, resV, resC, allV, retK, Nat.reduceBEq, Nat.reduceAdd, Nat.reduceMul, Nat.reduceLeDiff, Nat.reduceEqDiff, Nat.reduceBNe, Nat.ble_eq, UInt8.reduceToNat, UInt32.reduceToNat, set_ne nN2N1, set_ne nN2N1.symm, set_comm nN2N1.symm] <;> simp only [encM_nil]) (by simp -implicitDefEqProofs only [go_sem, start, startE, resVs, resV, resC, allV, retK, Nat.reduceBEq, Nat.reduceAdd, Nat.reduceMul, Nat.reduceLeDiff, Nat.reduceEqDiff, Nat.reduceBNe, Nat.ble_eq, UInt8.reduceToNat, UInt32.reduceToNat, set_ne nN2N1, set_ne nN2N1.symm, set_comm nN2N1.symm] <;> simp only [encM_nil])  nN2N1 h) (fun r4 => ?_)
    | with_reducible refine call_to (fun _ (h : ref19_Of d_0 = some _) => ref19_Of_fe h) (fun r5 => ?_)
    | with_reducible refine call_to (fun _ (h : ref19_Get r5 n_1 = some _) => ref19_Get_fe h) (fun r6 => ?_)
    | with_reducible refine call_to (fun _ (h : file_File_All r3 = some _) => file_File_All_fe (B0 := N2) (B0_get_ := N1) (by simp -implicitDefEqProofs only [go_sem, start, startE, resVs, resV, resC, allV, retK, Nat.reduceBEq, Nat.reduceAdd, Nat.reduceMul, Nat.reduceLeDiff, Nat.reduceEqDiff, Nat.reduceBNe, Nat.ble_eq, UInt8.reduceToNat, UInt32.reduceToNat, set_ne nN2N1, set_ne nN2N1.symm, set_comm nN2N1.symm] <;> simp only [encM_nil]) (by simp -implicitDefEqProofs only [go_sem, start, startE, resVs, resV, resC, allV, retK, Nat.reduceBEq, Nat.reduceAdd, Nat.reduceMul, Nat.reduceLeDiff, Nat.reduceEqDiff, Nat.reduceBNe, Nat.ble_eq, UInt8.reduceToNat, UInt32.reduceToNat, set_ne nN2N1, set_ne nN2N1.symm, set_comm nN2N1.symm] <;> simp only [encM_nil])  nN2N1 h) (fun r7 => ?_)
    | with_reducible refine call_to_q (fun _ (h : ref14_Same r4.1 r6.1 = some _) => ref14_Same_fe h) (fun _ => rfl) (fun r8 => ?_)
    | with_reducible refine call_to_g rfl (fun _ (h : ref19_Same r7.1 d_0.Objects = some _) => ref19_Same_fe h) (fun _ => rfl) (fun r9 => ?_)
    | with_reducible refine call_to_g rfl (fun _ (h : file_File_Root r3 = some _) => file_File_Root_fe (B0 := N2) (B0_get_ := N1) (by simp -implicitDefEqProofs only [go_sem, start, startE, resVs, resV, resC, allV, retK, Nat.reduceBEq, Nat.reduceAdd, Nat.reduceMul, Nat.reduceLeDiff, Nat.reduceEqDiff, Nat.reduceBNe, Nat.ble_eq, UInt8.reduceToNat, UInt32.reduceToNat, set_ne nN2N1, set_ne nN2N1.symm, set_comm nN2N1.symm] <;> simp only [encM_nil]) (by simp -implicitDefEqProofs only [go_sem, start, startE, resVs, resV, resC, allV, retK, Nat.reduceBEq, Nat.reduceAdd, Nat.reduceMul, Nat.reduceLeDiff, Nat.reduceEqDiff, Nat.reduceBNe, Nat.ble_eq, UInt8.reduceToNat, UInt32.reduceToNat, set_ne nN2N1, set_ne nN2N1.symm, set_comm nN2N1.symm] <;> simp only [encM_nil])  nN2N1 h) (fun _ => rfl) (fun r10 => ?_)
    | with_reducible refine call_to_g rfl (fun _ (h : file_File_Count r3 = some _) => file_File_Count_fe (B0 := N2) (B0_get_ := N1) (by simp -implicitDefEqProofs only [go_sem, start, startE, resVs, resV, resC, allV, retK, Nat.reduceBEq, Nat.reduceAdd, Nat.reduceMul, Nat.reduceLeDiff, Nat.reduceEqDiff, Nat.reduceBNe, Nat.ble_eq, UInt8.reduceToNat, UInt32.reduceToNat, set_ne nN2N1, set_ne nN2N1.symm, set_comm nN2N1.symm] <;> simp only [encM_nil]) (by simp -implicitDefEqProofs only [go_sem, start, startE, resVs, resV, resC, allV, retK, Nat.reduceBEq, Nat.reduceAdd, Nat.reduceMul, Nat.reduceLeDiff, Nat.reduceEqDiff, Nat.reduceBNe, Nat.ble_eq, UInt8.reduceToNat, UInt32.reduceToNat, set_ne nN2N1, set_ne nN2N1.symm, set_comm nN2N1.symm] <;> simp only [encM_nil])  nN2N1 h) (fun _ => rfl) (fun r11 => ?_)
    | ((fail_if_success (have _x := r12)); with_reducible refine call_to_g rfl (fun _ (h : law19_works = some _) => law19_works_fe h) (fun _ => rfl) (fun r12 => ?_))
    | ((fail_if_success (have _x := sN1)); with_reducible intro hh N1 hN1; (try simp only [set_none] at hN1); have sN1 := hN1; revert hh)
    | (have _x := sN1; clear _x; (fail_if_success (have _x := sN2)); with_reducible intro hh N2 hN2; (try simp only [set_none] at hN2); obtain ⟨nN2N1, sN2⟩ := hN2; revert hh)
    | with_reducible exact fun hh => ⟨_, SubS.set (SubS.set (SubS.refl _) (by simp [Store.set, sN1])) (by simp [Store.set, sN2]), hh⟩
    | with_reducible exact fun hh => ⟨_, SubS.refl _, hh⟩
    | simp -implicitDefEqProofs only [go_sem, start, startE, resVs, resV, resC, allV, retK, Nat.reduceBEq, Nat.reduceAdd, Nat.reduceMul, Nat.reduceLeDiff, Nat.reduceEqDiff, Nat.reduceBNe, Nat.ble_eq, UInt8.reduceToNat, UInt32.reduceToNat, set_ne nN2N1, set_ne nN2N1.symm, set_comm nN2N1.symm]
    | simp -implicitDefEqProofs only [go_sem, start, startE, resVs, resV, resC, allV, retK, Nat.reduceBEq, Nat.reduceAdd, Nat.reduceMul, Nat.reduceLeDiff, Nat.reduceEqDiff, Nat.reduceBNe, Nat.ble_eq, UInt8.reduceToNat, UInt32.reduceToNat])
theorem law19_FileDocs_fe {d_0 n_1} {s : Store} {r : Bool}  (h : law19_FileDocs d_0 n_1 = some r) : FE Go.Proofs.Tryz.prog 6 [.agg [.sl false 6 d_0.Objects.length (flat d_0.Objects), .int .i64 d_0.Root], .int .i64 n_1] s [.bool r] s := law19_FileDocs_fn  ⟨r, h, rfl, rfl⟩
end Go.AB.Fd
end

section
set_option linter.unusedSimpArgs false
namespace Go.AB.Fd
open Go Go.AB
def W : Nat → api_Value → Prop
  | 0, _ => False
  | n + 1, v => v.L.length ≤ n ∧ ∀ x ∈ v.L, W n x
theorem W_mono : ∀ (n m : Nat) (v : api_Value), n ≤ m → W n v → W m v
  | 0, _, _, _, h => h.elim
  | n + 1, 0, _, hm, _ => by omega
  | n + 1, m + 1, v, hm, h => ⟨by have := h.1; omega, fun x hx => W_mono n m x (by omega) (h.2 x hx)⟩
theorem few (fuel : Nat) : ∀ (v : api_Value) (left : Int), 0 ≤ left → left < fuel → left ≤ 4611686018427387904 → ∃ r, ref11_Few fuel v left = some r ∧ -1 ≤ r ∧ r < left ∧ (0 ≤ r → W left.toNat v) := by
  induction fuel with
  | zero => intro v left h0 h1; omega
  | succ fuel ih =>
    intro v left h0 h1 h2
    rw [ref11_Few]
    have hit : ∃ o : Int, iter (fun ((left2, k3) : Int × Int) =>
        if (decide (k3 < (v.L.length : Int))) && (decide (left2 ≥ 0)) then
          need (0 ≤ k3 ∧ k3 < v.L.length) <|
          bnd (ref11_Few fuel (ix v.L k3) left2) fun r5 =>
          some (.inl (r5, w64 (k3 + 1)))
        else
          some (.inr left2)) (w64 (left - 1), 0) = some o ∧ (-1 ≤ o ∧ o < left ∧ (0 ≤ o → W left.toNat v)) := by
      rw [w64_id (by omega) (by omega)]
      refine iter_inv (fun s => 0 ≤ s.2 ∧ -1 ≤ s.1 ∧ s.2 + s.1 ≤ left - 1 ∧ s.2 ≤ (v.L.length : Int) ∧ (0 ≤ s.1 → ∀ j : Nat, (j : Int) < s.2 → W (left - 1).toNat (ix v.L (j : Int)))) (fun s => (s.1 + 1).toNat) _ ?h (by show (left - 1 + 1).toNat < _; omega) ?s
      case h => exact ⟨Int.le_refl 0, by show -1 ≤ left - 1; omega, by show 0 + (left - 1) ≤ left - 1; omega, by show (0 : Int) ≤ _; omega, fun _ j hj => by have : (j : Int) < 0 := hj; omega⟩
      case s =>
        intro s hs
        obtain ⟨l2, k⟩ := s
        obtain ⟨i1, i2, i3, i4, i5⟩ := hs
        simp only at i1 i2 i3 i4 i5
        by_cases hc : k < (v.L.length : Int) ∧ 0 ≤ l2
        · have e : ((decide (k < (v.L.length : Int))) && (decide (l2 ≥ 0))) = true := by simp; exact ⟨hc.1, hc.2⟩
          obtain ⟨r, h3, h4, h5, h6⟩ := ih (ix v.L k) l2 hc.2 (by omega) (by omega)
          simp only [e, if_true]
          rw [need_pos ⟨i1, hc.1⟩, h3, bnd_some]
          refine ⟨_, rfl, ?_⟩
          rw [w64_id (by omega) (by omega)]
          refine ⟨⟨by show 0 ≤ k + 1; omega, h4, by show k + 1 + r ≤ left - 1; omega, by show k + 1 ≤ _; omega, fun hr j hj => ?_⟩, by show (r + 1).toNat < (l2 + 1).toNat; omega⟩
          have hr' : 0 ≤ r := hr
          have hj' : (j : Int) < k + 1 := hj
          by_cases hjk : (j : Int) < k
          · exact i5 hc.2 j hjk
          · rw [show (j : Int) = k by omega]
            exact W_mono _ _ _ (by omega) (h6 hr')
        · have e : ((decide (k < (v.L.length : Int))) && (decide (l2 ≥ 0))) = false := by
            cases h : ((decide (k < (v.L.length : Int))) && (decide (l2 ≥ 0))) with
            | false => rfl
            | true => simp at h; exact (hc ⟨h.1, h.2⟩).elim
          simp only [e, Bool.false_eq_true, if_false]
          refine ⟨_, rfl, i2, by show l2 < left; omega, fun hl => ?_⟩
          have hl' : 0 ≤ l2 := hl
          have hk : k = (v.L.length : Int) := by
            by_cases h : k < (v.L.length : Int)
            · exact (hc ⟨h, hl'⟩).elim
            · omega
          obtain ⟨m, hm⟩ : ∃ m, left.toNat = m + 1 := ⟨left.toNat - 1, by omega⟩
          rw [hm]
          refine ⟨by omega, fun x hx => ?_⟩
          obtain ⟨j, hj, rfl⟩ := List.getElem_of_mem hx
          have := i5 hl' j (by omega)
          rw [ix_nat hj, show (left - 1).toNat = m by omega] at this
          exact this
    obtain ⟨o, h3, h4⟩ := hit
    rw [h3]
    exact ⟨o, rfl, h4⟩
theorem texts : ∀ (n : Nat) (v : api_Value) (fuel : Nat), W n v → n ≤ fuel → n ≤ 4611686018427387904 → ∃ b, ref14_texts fuel v = some b
  | 0, _, _, h, _, _ => h.elim
  | n + 1, _, 0, _, h, _ => by omega
  | n + 1, v, fuel + 1, h, hf, hn => by
    rw [ref14_texts]
    have hit : ∃ o : Unit ⊕ Bool, iter (fun (k3 : Int) =>
          if decide (k3 < (v.L.length : Int)) then
            need (0 ≤ k3 ∧ k3 < v.L.length) <|
            bnd (ref14_texts fuel (ix v.L k3)) fun r6 =>
            if !r6 then
              some (.inr (.inr false))
            else
              some (.inl (w64 (k3 + 1)))
          else
            some (.inr (.inl ()))) 0 = some o ∧ True := by
      refine iter_inv (fun k => 0 ≤ k) (fun k => ((v.L.length : Int) - k).toNat) _ (Int.le_refl 0) (by have := h.1; omega) fun k hk => ?_
      by_cases hl : k < (v.L.length : Int)
      · rw [if_pos (by simpa using hl), need_pos ⟨hk, hl⟩]
        obtain ⟨b, hb⟩ := texts n (ix v.L k) fuel (by
          rw [ix_at (by omega)]
          exact h.2 _ (List.getElem_mem _)) (by omega) (by omega)
        rw [hb, bnd_some]
        cases b with
        | false => exact ⟨_, rfl, trivial⟩
        | true =>
          refine ⟨_, rfl, ?_⟩
          have := h.1
          show 0 ≤ w64 (k + 1) ∧ ((v.L.length : Int) - w64 (k + 1)).toNat < ((v.L.length : Int) - k).toNat
          rw [w64_id (by omega) (by omega)]
          exact ⟨by omega, by omega⟩
      · rw [if_neg (by simpa using hl)]
        exact ⟨_, rfl, trivial⟩
    obtain ⟨o, h1, _⟩ := hit
    rw [h1]
    cases o with
    | inl u => exact ⟨_, rfl⟩
    | inr b => exact ⟨_, rfl⟩
theorem ref14_Few_some (o : api_Object) (n : Int) : ∃ b, ref14_Few o n = some b ∧ (b = true → W 300 o.V) := by
  obtain ⟨r, h1, h2, h3, h4⟩ := few bigN o.V 300 (by decide) (by decide) (by decide)
  unfold ref14_Few
  rw [h1, bnd_some]
  by_cases hc : ((decide (r ≥ 0)) && (decide ((o.Data.b.length : Int) ≤ n))) = true
  · have hr : 0 ≤ r := by simp at hc; exact hc.1
    obtain ⟨b, hb⟩ := texts 300 o.V bigN (h4 hr) (by decide) (by decide)
    rw [hc, whenB_t, hb, bnd_some]
    exact ⟨_, rfl, fun _ => h4 hr⟩
  · have hc' : ((decide (r ≥ 0)) && (decide ((o.Data.b.length : Int) ≤ n))) = false := by simpa using hc
    rw [hc', whenB_f, bnd_some]
    exact ⟨_, rfl, fun h => by cases h⟩
inductive Runs {S O : Type} (body : S → Option (S ⊕ O)) : Nat → S → O → Prop
  | stop {m : Nat} {s : S} {o : O} (h : body s = some (.inr o)) : Runs body (m + 1) s o
  | step {m : Nat} {s t : S} {o : O} (h : body s = some (.inl t)) (k : Runs body m t o) : Runs body (m + 1) s o
theorem Runs.iterN {S O : Type} {body : S → Option (S ⊕ O)} {m : Nat} {s : S} {o : O} (h : Runs body m s o) : ∀ n, m ≤ n → iterN body n s = some o := by
  induction h with
  | stop h =>
    intro n hn
    obtain ⟨k, rfl⟩ : ∃ k, n = k + 1 := ⟨n - 1, by omega⟩
    unfold AB.iterN; rw [h]
  | step h _ ih =>
    intro n hn
    obtain ⟨k, rfl⟩ : ∃ k, n = k + 1 := ⟨n - 1, by omega⟩
    unfold AB.iterN; rw [h]
    exact ih k (by omega)
theorem Runs.iter {S O : Type} {body : S → Option (S ⊕ O)} {m : Nat} {s : S} {o : O} (h : Runs body m s o) (hm : m ≤ 18446744073709551616) : iter body s = some o := h.iterN _ hm
theorem few_all (l : List api_Object) (most : Int) (hm : most ≤ 1000) : ∃ b, ref19_Few l most = some b ∧ (b = true → (l.length : Int) ≤ most ∧ ∀ o ∈ l, W 300 o.V) := by
  unfold ref19_Few
  by_cases hl : (l.length : Int) > most
  · rw [if_pos (by simpa using hl)]
    exact ⟨false, rfl, fun h => by cases h⟩
  rw [if_neg (by simpa using hl)]
  have key : ∃ o : Unit ⊕ Bool, iter (fun (k2 : Int) =>
          if decide (k2 < (l.length : Int)) then
            need (0 ≤ k2 ∧ k2 < l.length) <|
            bnd (ref14_Few (ix l k2) 300) fun r4 =>
            if !r4 then
              some (.inr (.inr false))
            else
              some (.inl (w64 (k2 + 1)))
          else
            some (.inr (.inl ()))) 0 = some o ∧ ((o = .inl () ∧ ∀ o ∈ l, W 300 o.V) ∨ o = .inr false) := by
    refine iter_inv (fun k => ∃ j : Nat, k = (j : Int) ∧ j ≤ l.length ∧ ∀ i (h : i < j) (h' : i < l.length), W 300 (l[i]).V) (fun k => ((l.length : Int) - k).toNat) _ ⟨0, rfl, Nat.zero_le _, fun i h => absurd h (Nat.not_lt_zero i)⟩ (by show ((l.length : Int) - 0).toNat < _; omega) ?_
    rintro k ⟨j, rfl, hj, hi⟩
    by_cases hjl : j < l.length
    · obtain ⟨b, h1, h2⟩ := ref14_Few_some (ix l (j : Int)) 300
      rw [if_pos (by simpa using hjl), need_pos ⟨by omega, by omega⟩, h1, bnd_some]
      cases b with
      | false => exact ⟨_, rfl, .inr rfl⟩
      | true =>
        refine ⟨_, rfl, ?_⟩
        show (∃ j' : Nat, w64 ((j : Int) + 1) = (j' : Int) ∧ _) ∧ _
        rw [w64_id (by omega) (by omega)]
        refine ⟨⟨j + 1, by omega, by omega, fun i h h' => ?_⟩, by omega⟩
        rcases Nat.lt_or_ge i j with hij | hij
        · exact hi i hij h'
        · have : i = j := by omega
          subst this
          rw [ix_nat hjl] at h2
          exact h2 rfl
    · rw [if_neg (by simpa using hjl)]
      refine ⟨_, rfl, .inl ⟨rfl, fun o ho => ?_⟩⟩
      obtain ⟨i, h, rfl⟩ := List.getElem_of_mem ho
      exact hi i (by omega) h
  obtain ⟨o, h1, h2⟩ := key
  rw [h1]
  rcases h2 with ⟨rfl, h2⟩ | rfl
  · exact ⟨true, rfl, fun _ => ⟨by omega, h2⟩⟩
  · exact ⟨false, rfl, fun h => by cases h⟩
def getO (d : api_Doc) (n : Int) : api_Object := if (decide (n < 1)) || (decide (n > (d.Objects.length : Int))) then zeroO else ix d.Objects (n - 1)
structure FewD (d : api_Doc) : Prop where
  len : d.Objects.length ≤ 1000
  w : ∀ o ∈ d.Objects, W 300 o.V
theorem FewD.get {d : api_Doc} (h : FewD d) (n : Int) : W 300 (getO d n).V := by
  unfold getO
  split
  · exact ⟨Nat.zero_le _, fun x hx => by cases hx⟩
  · rename_i hc
    simp at hc
    rw [ix_at (by omega)]
    exact h.w _ (List.getElem_mem _)
theorem Get_eq (f : file_File) (n : Int) (h : FewD f.get_) : file_File_Get f n = some (getO f.get_ n, 0, 0) := by
  have hl := h.len
  unfold file_File_Get file_File_is
  rw [bnd_some]
  refine if_not (by simp) ?_
  unfold file_Of_1 getO
  by_cases hc : ((decide (n < 1)) || (decide (n > (f.get_.Objects.length : Int)))) = true
  · rw [if_pos hc, if_pos hc]; rfl
  · rw [if_neg hc, if_neg hc]
    simp at hc
    rw [w64_id (by omega) (by omega), need_pos (by omega)]; rfl
theorem bytesLess_irrefl : ∀ l : List UInt8, Op.bytesLess l l = false
  | [] => rfl
  | a :: l => by
    unfold Op.bytesLess
    simp [bytesLess_irrefl l]
theorem rcompare_self : ∀ (n : Nat) (v : api_Value) (fuel : Nat), W n v → n ≤ fuel → n ≤ 1000 → ref11_Compare fuel v v = some 0
  | 0, _, _, h, _, _ => h.elim
  | n + 1, v, 0, _, h, _ => by omega
  | n + 1, v, fuel + 1, h, hf, hn => by
    have hl := h.1
    rw [ref11_Compare]
    refine if_not (by simp [bytesLess_irrefl]) (if_not (by simp) ?_)
    refine jnS_of (z := .inl ()) (bndS_of (z := .inl ()) (iter_cnt v.L.length (by omega) (fun k hk => ?_) (if_not (by simp) rfl)) rfl) (if_not (by simp) (if_not (by simp) rfl))
    exact if_of (by simp; omega) (need_of (by omega) (need_of (by omega) (bnd_of (rcompare_self n _ fuel (by rw [ix_nat hk]; exact h.2 _ (List.getElem_mem hk)) (by omega) (by omega)) rfl)))
theorem rsame_self {n : Nat} {v : api_Value} (h : W n v) (hn : n ≤ 1000) : ref11_Same v v = some true := by
  unfold ref11_Same
  rw [rcompare_self n v bigN h (by have : 1000000 ≤ bigN := by decide
                                   omega) hn]
  rfl
def fileR (d : api_Doc) : ref19_File := ref19_File.mk d.Objects (ref16_File.mk ([] : List UInt8) ([] : List Bool)) (ref17_Table.mk ([] : List Int) d.Root)
theorem rGet_eq (d : api_Doc) (n : Int) (h : FewD d) : ref19_Get (fileR d) n = some (getO d n, 0, 0) := by
  have hl := h.len
  unfold ref19_Get getO
  by_cases hc : ((decide (n < 1)) || (decide (n > (d.Objects.length : Int)))) = true
  · rw [if_pos hc]; exact if_of hc rfl
  · rw [if_neg hc]
    refine if_not hc ?_
    simp at hc
    rw [w64_id (by omega) (by omega)]
    exact need_of (by show 0 ≤ n - 1 ∧ n - 1 < (d.Objects.length : Int); omega) rfl
theorem osame_self (o : api_Object) (h : W 300 o.V) : ref14_Same o o = some true := by
  refine bnd_of (rsame_self h (by decide)) ?_
  cases o.Stream <;> simp
theorem objs_same (l : List api_Object) (hl : l.length ≤ 1000) (hd : ∀ o ∈ l, W 300 o.V) : ref19_Same l l = some true := by
  unfold ref19_Same
  refine if_not (by simp) (jnS_of (z := .inl ()) (bndS_of (z := .inl ()) (iter_cnt l.length (by omega) (fun k hk => ?_) ?_) rfl) rfl)
  · have e : ix l (k : Int) = l[k] := ix_nat hk
    rw [e]
    exact if_of (decide_eq_true (by omega)) (need_of ⟨by omega, by omega⟩ (need_of ⟨by omega, by omega⟩ (bnd_of (osame_self _ (hd _ (List.getElem_mem hk))) (if_not (by simp) rfl))))
  · exact if_not (by simp) rfl
theorem All_eq (d : api_Doc) (h : FewD d) : file_File_All ⟨d.Root, d.Objects.length, d⟩ = some (d.Objects, 0, 0) := by
  have hl := h.len
  unfold file_File_All
  refine bnd_of (a := true) rfl (if_not (by simp) ?_)
  refine jnS_of (z := .inl d.Objects) (bndS_of (z := .inl d.Objects) (iter_upto d.Objects.length (fun k => (d.Objects.take k, (k : Int) + 1)) rfl (by omega) (fun k hk => ?_) ?_) rfl) rfl
  · have hg : getO d ((k : Int) + 1) = d.Objects[k] := by
      unfold getO
      rw [if_neg (by simp; omega), show (k : Int) + 1 - 1 = k by omega, ix_nat hk]
    have ht : (d.Objects.take k).length = k := by simp; omega
    refine if_of (decide_eq_true (by show (k : Int) + 1 ≤ d.Objects.length; omega)) (bnd_of (Get_eq _ _ h) (if_not (by simp) (need_of ?_ ?_)))
    · simp only [ht, List.length_cons, List.length_nil]
      show (k + (0 + 1)) * 80 ≤ 140737488355328
      omega
    · show some (Sum.inl (d.Objects.take k ++ [getO d ((k : Int) + 1)], w64 ((k : Int) + 1 + 1))) = _
      rw [hg, w64_id (by omega) (by omega), List.take_succ_eq_append_getElem hk]
      rfl
  · refine if_not (by show ¬ decide ((d.Objects.length : Int) + 1 ≤ d.Objects.length) = true; simp; omega) ?_
    simp
theorem law19_FileDocs_true (d : api_Doc) (n : Int) : law19_FileDocs d n = some true := by
  unfold law19_FileDocs
  obtain ⟨b, h1, h2⟩ := few_all d.Objects 30 (by decide)
  refine bnd_of h1 ?_
  cases b with
  | false => exact if_of rfl (bnd_of rfl rfl)
  | true =>
    obtain ⟨hl, hw⟩ := h2 rfl
    have h : FewD d := ⟨by omega, hw⟩
    refine if_not (by simp) ?_
    refine bnd_of (a := ⟨d.Root, d.Objects.length, d⟩) rfl (bnd_of (Get_eq _ n h) (bnd_of (a := fileR d) rfl (bnd_of (rGet_eq d n h) (bnd_of (All_eq d h) ?_))))
    refine bnd_of (osame_self _ (h.get n)) ?_
    simp only [beq_self_eq_true, Bool.and_self, Bool.and_true, Bool.true_and, whenB_t]
    refine bnd_of (objs_same _ h.len hw) ?_
    simp only [beq_self_eq_true, Bool.and_self, Bool.and_true, Bool.true_and, whenB_t]
    refine bnd_of (a := d.Root) rfl ?_
    simp only [beq_self_eq_true, Bool.and_self, Bool.and_true, Bool.true_and, whenB_t]
    refine bnd_of (a := (d.Objects.length : Int)) rfl ?_
    simp only [beq_self_eq_true, Bool.and_self, Bool.and_true, Bool.true_and, whenB_t]
    rfl
end Go.AB.Fd
end

section
namespace Go.AB
open Go Go.RowKit Go.ChangeShapes Go.WideShapes
def bigR (N : Nat) (w : World) (b : Nat) : Nat := if b < w.heap.size then N else 0
theorem law_calls' {P : Program} {w : World} {f : FuncId} {args : List AV} {vs : Array Value} (N : Nat) (hf : FN P f args noStore fun rs _ => rs = [.bool true]) (ha : ArgsR w (bigR N w) args vs) :
    Calls P f vs w fun e w' => e = .returned (.bool true) ∧ Below w.heap.size w w' := by
  refine (hf ⟨bigR N w, fun _ => .none⟩ w vs ⟨fun _ _ => rfl, fun b hb => ?_⟩ (fun b => .inl rfl) (fun b o h => by cases h) ha).mono fun e w' ⟨v, rs, s', G', he, hq, _, _, hr, hp⟩ => ?_
  · show bigR N w b = 0
    unfold bigR
    rw [if_neg (by omega)]
  · subst hq
    refine ⟨?_, ⟨hp.os, hp.tape, hp.output, hp.size, fun b hb => hp.frame b hb (.inr rfl)⟩⟩
    rw [he]
    have := VR.inv_bool hr.1
    rw [this]
def VRs (w : World) (R : Nat → Nat) (as1 : List AV) (cs : List Value) : Prop := cs.length = as1.length ∧ ∀ (j : Nat) (a : AV) (v : Value), as1[j]? = some a → cs[j]? = some v → VR w R a v
theorem VRs.one {w : World} {R : Nat → Nat} {a : AV} {v : Value} (h : VR w R a v) : VRs w R [a] [v] := by
  refine ⟨rfl, fun j a' v' h1 h2 => ?_⟩
  cases j with
  | zero => cases h1; cases h2; exact h
  | succ j => simp at h1
theorem VRs.append {w : World} {R : Nat → Nat} {as1 bs : List AV} {cs ds : List Value} (h : VRs w R as1 cs) (k : VRs w R bs ds) : VRs w R (as1 ++ bs) (cs ++ ds) := by
  refine ⟨by rw [List.length_append, List.length_append, h.1, k.1], fun j a v h1 h2 => ?_⟩
  rcases Nat.lt_or_ge j as1.length with hj | hj
  · rw [List.getElem?_append_left hj] at h1
    rw [List.getElem?_append_left (by rw [h.1]; exact hj)] at h2
    exact h.2 j a v h1 h2
  · rw [List.getElem?_append_right hj] at h1
    rw [List.getElem?_append_right (by rw [h.1]; exact hj), h.1] at h2
    exact k.2 _ a v h1 h2
def OpensC (P : Program) (t : TypeId) {α : Type} (n : Nat) (C : α → List AV) (wf : α → Prop) : Prop :=
  ∀ (H : Type) (enc : TypeId × Value → H) (w : World) (fuel : Nat) (cs : List Value) (x : DataW H × List MemPlace), DataW.trod enc P w 0 (fun _ => true) true fuel t cs = some x →
    cs.length = n ∧ ∃ a : α, wf a ∧ Fl (C a) ∧ ∃ N0, ∀ N, N0 ≤ N → VRs w (bigR N w) (C a) cs
def Opens (P : Program) (t : TypeId) (α : Type) [Enc α] (wf : α → Prop) : Prop := OpensC P t (Enc.w α) (Enc.cells : α → List AV) wf
section
variable {P : Program} {t : TypeId}
theorem fl_one {a : AV} (h : flatV a = true) : Fl [a] := by
  intro c hc
  rw [List.mem_singleton] at hc; rw [hc]; exact h
theorem opens_bool (ht : P.underlying t = some .bool) : Opens P t Bool fun _ => True := by
  intro H enc w fuel cs x h
  obtain ⟨b, rfl, _⟩ := DataW.trod_bool ht h
  exact ⟨rfl, b, trivial, fl_one rfl, 0, fun N _ => VRs.one (.bool b)⟩
theorem opens_int (ht : P.underlying t = some (.int .i64)) : Opens P t Int fun n => -9223372036854775808 ≤ n ∧ n ≤ 9223372036854775807 := by
  intro H enc w fuel cs x h
  obtain ⟨n, rfl, _, hw⟩ := DataW.trod_int ht h
  refine ⟨rfl, n, ?_, fl_one rfl, 0, fun N _ => VRs.one (.int _ n)⟩
  simpa [Lit.wf, IntKind.min, IntKind.max, IntKind.signed, IntKind.bits] using hw
theorem opens_u8 (ht : P.underlying t = some (.int .u8)) : Opens P t UInt8 fun _ => True := by
  intro H enc w fuel cs x h
  obtain ⟨n, rfl, _, hw⟩ := DataW.trod_int ht h
  have hb : 0 ≤ n ∧ n ≤ 255 := by simpa [Lit.wf, IntKind.min, IntKind.max, IntKind.signed, IntKind.bits] using hw
  refine ⟨rfl, UInt8.ofNat n.toNat, trivial, fl_one rfl, 0, fun N _ => ?_⟩
  have e : ((UInt8.ofNat n.toNat).toNat : Int) = n := by
    rw [UInt8.toNat_ofNat']; omega
  show VRs _ _ [.int .u8 ((UInt8.ofNat n.toNat).toNat : Int)] _
  rw [e]
  exact VRs.one (.int _ n)
theorem opens_u32 (ht : P.underlying t = some (.int .u32)) : Opens P t UInt32 fun _ => True := by
  intro H enc w fuel cs x h
  obtain ⟨n, rfl, _, hw⟩ := DataW.trod_int ht h
  have hb : 0 ≤ n ∧ n ≤ 4294967295 := by simpa [Lit.wf, IntKind.min, IntKind.max, IntKind.signed, IntKind.bits] using hw
  refine ⟨rfl, UInt32.ofNat n.toNat, trivial, fl_one rfl, 0, fun N _ => ?_⟩
  have e : ((UInt32.ofNat n.toNat).toNat : Int) = n := by
    rw [UInt32.toNat_ofNat']; omega
  show VRs _ _ [.int .u32 ((UInt32.ofNat n.toNat).toNat : Int)] _
  rw [e]
  exact VRs.one (.int _ n)
theorem opens_u64 (ht : P.underlying t = some (.int .u64)) : Opens P t UInt64 fun _ => True := by
  intro H enc w fuel cs x h
  obtain ⟨n, rfl, _, hw⟩ := DataW.trod_int ht h
  have hb : 0 ≤ n ∧ n ≤ 18446744073709551615 := by simpa [Lit.wf, IntKind.min, IntKind.max, IntKind.signed, IntKind.bits] using hw
  refine ⟨rfl, UInt64.ofNat n.toNat, trivial, fl_one rfl, 0, fun N _ => ?_⟩
  have e : ((UInt64.ofNat n.toNat).toNat : Int) = n := by
    rw [UInt64.toNat_ofNat']; omega
  show VRs _ _ [.int .u64 ((UInt64.ofNat n.toNat).toNat : Int)] _
  rw [e]
  exact VRs.one (.int _ n)
theorem opens_str (ht : P.underlying t = some .string) : Opens P t Str fun s => s.b.length ≤ maxLen := by
  intro H enc w fuel cs x h
  obtain ⟨s, rfl, _, hs⟩ := DataW.trod_string ht h
  refine ⟨rfl, ⟨s.data.toList⟩, by simpa using hs, fl_one rfl, 0, fun N _ => ?_⟩
  have := VR.str (w := w) (R := bigR N w) s.data.toList
  exact VRs.one this
theorem choose_list {α : Type} {Q : Nat → α → Prop} : ∀ n : Nat, (∀ i, i < n → ∃ a, Q i a) → ∃ l : List α, l.length = n ∧ ∀ (i : Nat) (a : α), l[i]? = some a → Q i a
  | 0, _ => ⟨[], rfl, fun i a h => by simp at h⟩
  | n + 1, h => by
    obtain ⟨l, h1, h2⟩ := choose_list n fun i hi => h i (by omega)
    obtain ⟨a, ha⟩ := h n (by omega)
    refine ⟨l ++ [a], by simp [h1], fun i x hx => ?_⟩
    rcases Nat.lt_or_ge i n with hi | hi
    · rw [List.getElem?_append_left (by omega)] at hx; exact h2 i x hx
    · rw [List.getElem?_append_right (by omega)] at hx
      have : i = n := by
        have := (List.getElem?_eq_some_iff.1 hx).1
        simp at this; omega
      subst this
      rw [h1, Nat.sub_self] at hx
      injection hx with hx; rw [← hx]; exact ha
theorem common {Q : Nat → Nat → Prop} : ∀ n : Nat, (∀ i, i < n → ∃ N0, ∀ N, N0 ≤ N → Q i N) → ∃ N0, ∀ N, N0 ≤ N → ∀ i, i < n → Q i N
  | 0, _ => ⟨0, fun _ _ i h => absurd h (Nat.not_lt_zero i)⟩
  | n + 1, h => by
    obtain ⟨a, ha⟩ := common n fun i hi => h i (by omega)
    obtain ⟨b, hb⟩ := h n (by omega)
    refine ⟨max a b, fun N hN i hi => ?_⟩
    rcases Nat.lt_or_ge i n with h1 | h1
    · exact ha N (by omega) i h1
    · have : i = n := by omega
      rw [this]; exact hb N (by omega)
theorem flat_get {α : Type} [Enc α] (l : List α) {i r : Nat} {a : α} (hi : l[i]? = some a) (hr : r < Enc.w α) : (flat l)[i * Enc.w α + r]? = (Enc.cells a)[r]? := by
  have h1 := flat_sub l (Enc.w α) i 1 rfl
  obtain ⟨hlt, he⟩ := List.getElem?_eq_some_iff.1 hi
  have h2 : (l.drop i).take 1 = [a] := by rw [List.drop_eq_getElem_cons hlt, he]; rfl
  rw [h2, flat_cons, flat_nil, List.append_nil, Nat.one_mul] at h1
  rw [← h1]
  unfold AB.sub
  rw [List.getElem?_take, if_pos hr, List.getElem?_drop]
theorem open_slice {H : Type} {enc : TypeId × Value → H} {w : World} {e : TypeId} {α : Type} [Enc α] {wf : α → Prop} {b0 : Nat} {v : Value} {d : DataW H} {ps : List MemPlace}
    (ht : P.underlying t = some (.slice e)) (hc : P.cellsOf e = Enc.w α) (he : Opens P e α wf) (hval : Value.okWide P w .any b0 t v) (h : DataW.Trod enc P w 0 (fun _ => true) true t v d ps) :
    ∃ l : List α, l.length ≤ maxLen ∧ (∀ a ∈ l, wf a) ∧ ∃ N0, ∀ N, N0 ≤ N → VR w (bigR N w) (.sl false (Enc.w α) l.length (flat l)) v := by
  have hv : v = .slice none 0 0 ∨ ∃ a len cap, v = .slice (some a) len cap ∧ w.has P .any b0 a e cap := by
    unfold Value.okWide Cell.okWide Cell.ok at hval
    rw [ht] at hval
    dsimp only at hval
    split at hval <;> simp_all
    exact ⟨_, _, _, ⟨rfl, rfl, rfl⟩, hval.2.2⟩
  obtain ⟨fuel, hf⟩ := h
  rcases hv with rfl | ⟨a, len, cap, rfl, hhas⟩
  · exact ⟨[], Nat.zero_le _, (fun _ h => absurd h List.not_mem_nil), 0, fun N _ => .slnil _ _⟩
  · obtain ⟨_, hsp, row, cells, hsh, _⟩ := hhas
    obtain ⟨b, off, spot⟩ := a
    simp only at hsp hsh
    subst hsp
    have hb : b < w.heap.size := by
      rcases Nat.lt_or_ge b w.heap.size with h | h
      · exact h
      · unfold World.shape? at hsh
        rw [Array.getElem?_eq_none h] at hsh
        cases hsh
    rcases DataW.trod_slice ht hf with ⟨h0, _⟩ | ⟨a, len', cap', elems, rest, n, _, hcs, _, _, hl, hm, hlen, hel, _⟩
    · simp [Value.cells] at h0
    · have hcs' : (a = ⟨b, off, none⟩ ∧ len' = len) ∧ cap' = cap := by
        simp [Value.cells] at hcs
        exact ⟨⟨hcs.1.symm, hcs.2.1.symm⟩, hcs.2.2.symm⟩
      obtain ⟨⟨rfl, rfl⟩, rfl⟩ := hcs'
      have each : ∀ i, i < len' → ∃ x : α × List Value, wf x.1 ∧ Fl (Enc.cells x.1) ∧ w.cells? 0 ((⟨b, off, none⟩ : Addr).add (i * Enc.w α)) (Enc.w α) = some x.2 ∧ ∃ N0, ∀ N, N0 ≤ N → VRs w (bigR N w) (Enc.cells x.1) x.2 := by
        intro i hi
        have h1 := hel i hi
        rw [hc, List.getElem?_eq_getElem (by omega), Option.bind_eq_some_iff] at h1
        obtain ⟨cs, h2, h3⟩ := h1
        obtain ⟨_, x, h4, h5, h6⟩ := he H enc w n cs _ h3
        exact ⟨(x, cs), h4, h5, h2, h6⟩
      obtain ⟨L, hL, hQ⟩ := choose_list len' each
      have hx : ∀ i, i < len' → ∃ x, L[i]? = some x := fun i hi => ⟨L[i]'(by omega), List.getElem?_eq_getElem (by omega)⟩
      obtain ⟨N0, hN0⟩ := common (Q := fun i N => ∀ x, L[i]? = some x → VRs w (bigR N w) (Enc.cells x.1) x.2) len' fun i hi => by
        obtain ⟨x, hx⟩ := hx i hi
        obtain ⟨_, _, _, N0, h⟩ := hQ i x hx
        exact ⟨N0, fun N hN y hy => by rw [hx] at hy; cases hy; exact h N hN⟩
      have hwf : ∀ a ∈ L.map (·.1), wf a ∧ Fl (Enc.cells a) := by
        intro a ha
        obtain ⟨x, hx, rfl⟩ := List.mem_map.1 ha
        obtain ⟨i, hi⟩ := List.getElem?_of_mem hx
        have := hQ i x hi
        exact ⟨this.1, this.2.1⟩
      have hget : ∀ (j : Nat) (c : AV), (flat (L.map (·.1)))[j]? = some c → ∃ v, w.cell? ⟨b, off + j, none⟩ = some v ∧ ∀ N, N0 ≤ N → VR w (bigR N w) c v := by
        intro j c hj
        have hw : 0 < Enc.w α := Enc.pos
        have hjl := (List.getElem?_eq_some_iff.1 hj).1
        rw [flat_len, List.length_map, hL] at hjl
        have hi : j / Enc.w α < len' := Nat.div_lt_of_lt_mul (by rw [Nat.mul_comm]; exact hjl)
        have hr : j % Enc.w α < Enc.w α := Nat.mod_lt _ hw
        have hje : j = j / Enc.w α * Enc.w α + j % Enc.w α := by rw [Nat.mul_comm]; exact (Nat.div_add_mod _ _).symm
        obtain ⟨x, hx⟩ := hx _ hi
        have h1 := flat_get (L.map (·.1)) (i := j / Enc.w α) (a := x.1) (by rw [List.getElem?_map, hx]; rfl) hr
        rw [← hje, hj] at h1
        obtain ⟨_, _, h2, _⟩ := hQ _ x hx
        obtain ⟨_, h3, h4⟩ := World.cells?_some h2
        have h5 := h4 _ hr
        rw [add_plain, add_plain, Nat.add_assoc, ← hje] at h5
        refine ⟨x.2[j % Enc.w α]'(by omega), by rw [h5, List.getElem?_eq_getElem], fun N hN => ?_⟩
        exact (hN0 N hN _ hi x hx).2 _ _ _ h1.symm (List.getElem?_eq_getElem _)
      refine ⟨L.map (·.1), by rw [List.length_map, hL]; omega, fun a ha => (hwf a ha).1, max N0 (off + len' * Enc.w α), fun N hN => ?_⟩
      rw [List.length_map, hL]
      refine .sl false (Enc.w α) len' _ b off cap' (fun j => (w.cell? ⟨b, off + j, none⟩).getD default) ?_ ?_ ?_ hl ?_ ?_
      · intro c hcm
        unfold flat at hcm
        obtain ⟨l, hl, hcl⟩ := List.mem_flatten.1 hcm
        obtain ⟨a, ha, rfl⟩ := List.mem_map.1 hl
        exact (hwf a ha).2 c hcl
      · rw [flat_len, List.length_map, hL]
      · rw [flat_len, List.length_map, hL]
        unfold bigR
        rw [if_pos hb]; omega
      · intro j c hj
        obtain ⟨v, h1, _⟩ := hget j c hj
        rw [h1]; rfl
      · intro j c hj
        obtain ⟨v, h1, h2⟩ := hget j c hj
        simp only [h1, Option.getD_some]; exact h2 N (by omega)
end
end Go.AB
end

section
namespace Go.AB
open Go Go.RowKit Go.ChangeShapes Go.WideShapes
section
variable {P : Program}
theorem trodAll_below {H : Type} {enc : TypeId × Value → H} (hl : laidOutB P = true) {W W' : World} (hb : Below W.heap.size W W') :
    ∀ {ts : List TypeId} {vs : List Value} {ds : List (DataW H)} {ps : List MemPlace}, (∀ t ∈ ts, P.readableRec t = true ∧ t < P.types.size) → DataW.TrodAll enc P W 0 (fun _ => true) true ts vs ds ps →
      DataW.TrodAll enc P W' 0 (fun b => decide (b < W.heap.size)) true ts vs ds ps
  | [], [], [], _, _, h => h
  | t :: ts, v :: vs, d :: ds, _, hr, h => by
    have hlt := h.lt
    obtain ⟨p, q, h1, h2, rfl⟩ := h
    have ht := hr t List.mem_cons_self
    exact ⟨p, q, Below.trod hl ht.1 ht.2 h1 hb fun x hx => hlt x (List.mem_append_left _ hx), trodAll_below hl hb (fun t ht => hr t (List.mem_cons_of_mem _ ht)) h2, rfl⟩
  | [], _ :: _, _, _, _, h => h.elim
  | [], [], _ :: _, _, _, h => h.elim
  | _ :: _, [], _, _, _, h => h.elim
  | _ :: _, _ :: _, [], _, _, h => h.elim
theorem law_post {H : Type} {enc : TypeId × Value → H} {fn : Func} {s : ChangeSpec} {f : FuncId} {W : World} {args : Array Value} {ds gs : List (DataW H)} {before : List MemPlace} {tb : TypeId}
    (hvars : s.vars = []) (hres : fn.resultTypes = #[tb]) (htb : P.underlying tb = some .bool) (hl : laidOutB P = true) (hr : ∀ t ∈ fn.params.toList, P.readableRec t = true ∧ t < P.types.size)
    (hspec : ∀ ds : List (DataW H), ds.length = fn.params.toList.length → s.fn H ds = { results := [.lit (.bool true)], args := ds })
    (hW : DataW.Whole enc P fn.params.toList s.vars false W args.toList ds gs before)
    (hc : Calls P f args W fun e w' => e = .returned (.bool true) ∧ Below W.heap.size W w') :
    Calls P f args W fun e W' => ∃ v, e = .returned v ∧ s.post enc P fn false true false false W args v W' := by
  refine hc.mono fun e W' ⟨he, hb⟩ => ⟨.bool true, he, ?_⟩
  have hW' := hW
  obtain ⟨p, q, hA, hV, rfl, hfz, hnd⟩ := hW
  rw [hvars] at hV
  obtain ⟨rfl, rfl⟩ := trodVars_none hV
  have hs := hspec ds (trodAll_length hA).2
  refine ⟨ds, [], _, [], p, [], hW', ?_, ?_, ?_, ?_, fun h => by cases h⟩
  · rw [List.append_nil, hs, hres]
    exact trodAll_mk1 (shut_bool htb true)
  · rw [List.append_nil, hs]
    exact trodAll_below hl hb hr hA
  · rw [List.append_nil, hs, hvars]
    exact rfl
  · exact World.keptBut_mono (fun p hp => hp.elim) (hb.frame fun _ => False)
def OpensF (P : Program) (fs : List (TypeId × Nat)) (o : Nat) {α : Type} (n : Nat) (C : α → List AV) (wf : α → Prop) : Prop :=
  ∀ (H : Type) (enc : TypeId × Value → H) (w : World) (fuel : Nat) (cs : List Value), (∀ f ∈ fs, ∃ x, DataW.trod enc P w 0 (fun _ => true) true fuel f.1 ((cs.drop f.2).take (P.cellsOf f.1)) = some x) →
    ∃ a : α, wf a ∧ Fl (C a) ∧ ∃ N0, ∀ N, N0 ≤ N → VRs w (bigR N w) (C a) ((cs.drop o).take n)
theorem opensF_nil {o : Nat} : OpensF P [] o 0 (fun _ : Unit => []) fun _ => True :=
  fun _ _ _ _ _ _ => ⟨(), trivial, (fun _ h => absurd h List.not_mem_nil), 0, fun _ _ => ⟨by simp, fun j a v h => by simp at h⟩⟩
theorem opensF_cons {t : TypeId} {o n1 n2 : Nat} {fs : List (TypeId × Nat)} {α β : Type} {C1 : α → List AV} {C2 : β → List AV} {wf1 : α → Prop} {wf2 : β → Prop}
    (h1 : OpensC P t n1 C1 wf1) (hc : P.cellsOf t = n1) (h2 : OpensF P fs (o + n1) n2 C2 wf2) : OpensF P ((t, o) :: fs) o (n1 + n2) (fun p : α × β => C1 p.1 ++ C2 p.2) fun p => wf1 p.1 ∧ wf2 p.2 := by
  intro H enc w fuel cs h
  obtain ⟨x, hx⟩ := h _ List.mem_cons_self
  obtain ⟨_, a, ha, hfa, N1, hN1⟩ := h1 H enc w fuel _ x hx
  obtain ⟨b, hb, hfb, N2, hN2⟩ := h2 H enc w fuel cs fun f hf => h f (List.mem_cons_of_mem _ hf)
  refine ⟨(a, b), ⟨ha, hb⟩, fun c hc => (List.mem_append.1 hc).elim (hfa c) (hfb c), max N1 N2, fun N hN => ?_⟩
  rw [List.take_add, List.drop_drop]
  refine VRs.append ?_ (hN2 N (by omega))
  rw [← hc]
  exact hN1 N (by omega)
theorem OpensC.map {t : TypeId} {n : Nat} {α β : Type} {C : α → List AV} {wf : α → Prop} (h : OpensC P t n C wf) {C' : β → List AV} {wf' : β → Prop} (g : α → β) (hC : ∀ a, C' (g a) = C a) (hw : ∀ a, wf a → wf' (g a)) : OpensC P t n C' wf' := by
  intro H enc w fuel cs x hx
  obtain ⟨h1, a, h2, h3, N0, h4⟩ := h H enc w fuel cs x hx
  exact ⟨h1, g a, hw a h2, by rw [hC]; exact h3, N0, by rw [hC]; exact h4⟩
theorem opens_struct {t : TypeId} {fs : Array Field} {n : Nat} {α : Type} {C : α → List AV} {wf : α → Prop} (ht : P.underlying t = some (.struct fs)) (hn : P.cellsOf t = n)
    (hf : OpensF P (fs.toList.map fun f => (f.type, f.offset)) 0 n C wf) : OpensC P t n C wf := by
  intro H enc w fuel cs x h
  obtain ⟨xs, m, _, _, hl, hxl, hel⟩ := DataW.trod_struct ht h
  obtain ⟨a, ha, hfa, N0, hN⟩ := hf H enc w m cs fun f hf => by
    obtain ⟨g, hg, rfl⟩ := List.mem_map.1 hf
    obtain ⟨i, hi⟩ := List.getElem?_of_mem hg
    have h1 := hel i g (by rw [← Array.getElem?_toList]; exact hi)
    have hi' := (List.getElem?_eq_some_iff.1 hi).1
    rw [List.getElem?_eq_getElem (by simpa [hxl] using hi')] at h1
    exact ⟨_, h1⟩
  refine ⟨by rw [hl, hn], a, ha, hfa, N0, fun N h => ?_⟩
  have := hN N h
  rwa [List.drop_zero, List.take_of_length_le (by omega)] at this
theorem opens_array {t e : TypeId} {m k n : Nat} {α : Type} {C : α → List AV} {wf : α → Prop} (ht : P.underlying t = some (.array m e)) (hn : P.cellsOf t = n) (hk : P.cellsOf e = k)
    (hf : OpensF P ((List.range m).map fun i => (e, i * k)) 0 n C wf) : OpensC P t n C wf := by
  intro H enc w fuel cs x h
  obtain ⟨xs, q, _, _, hl, hxl, hel⟩ := DataW.trod_array ht h
  obtain ⟨a, ha, hfa, N0, hN⟩ := hf H enc w q cs fun f hf => by
    obtain ⟨i, hi, rfl⟩ := List.mem_map.1 hf
    have hi' := List.mem_range.1 hi
    have h1 := hel i hi'
    rw [List.getElem?_eq_getElem (by omega), hk] at h1
    rw [hk]
    exact ⟨_, h1⟩
  refine ⟨by rw [hl, hn], a, ha, hfa, N0, fun N h => ?_⟩
  have := hN N h
  rwa [List.drop_zero, List.take_of_length_le (by omega)] at this
section
variable {H : Type} {enc : TypeId × Value → H} {w : World} {t : TypeId} {α : Type} [Enc α] {wf : α → Prop} {b0 : Nat} {v : Value} {d : DataW H} {ps : List MemPlace}
theorem open_agg (hs : (∃ fs, P.underlying t = some (.struct fs)) ∨ ∃ n e, P.underlying t = some (.array n e)) (he : Opens P t α wf) (hval : Value.okWide P w .any b0 t v) (h : DataW.Trod enc P w 0 (fun _ => true) true t v d ps) :
    ∃ a : α, wf a ∧ ∃ N0, ∀ N, N0 ≤ N → VR w (bigR N w) (.agg (Enc.cells a)) v := by
  have hv : ∃ cs, v = .agg cs := by
    unfold Value.okWide at hval
    rcases hs with ⟨fs, hs⟩ | ⟨n, e, hs⟩ <;> rw [hs] at hval <;> obtain ⟨cs, rfl, _⟩ := hval <;> exact ⟨cs, rfl⟩
  obtain ⟨cs, rfl⟩ := hv
  obtain ⟨fuel, hf⟩ := h
  obtain ⟨_, a, ha, hfl, N0, hN⟩ := he H enc w fuel _ _ hf
  refine ⟨a, ha, N0, fun N h => ?_⟩
  have h1 := hN N h
  exact .agg _ _ hfl (by simpa [Value.cells] using h1.1) fun j c v h2 h3 => h1.2 j c v h2 (by simpa [Value.cells] using h3)
theorem open_plain (hs : ∀ cs, v ≠ .agg cs) (he : Opens P t α wf) (h : DataW.Trod enc P w 0 (fun _ => true) true t v d ps) :
    ∃ a : α, wf a ∧ ∃ N0, ∀ N, N0 ≤ N → VRs w (bigR N w) (Enc.cells a) [v] := by
  obtain ⟨fuel, hf⟩ := h
  obtain ⟨_, a, ha, _, N0, hN⟩ := he H enc w fuel _ _ hf
  refine ⟨a, ha, N0, fun N h => ?_⟩
  have h1 := hN N h
  have : v.cells.toList = [v] := by
    cases v <;> first | rfl | exact absurd rfl (hs _)
  rwa [this] at h1
theorem VRs.head {R : Nat → Nat} {a : AV} (h : VRs w R [a] [v]) : VR w R a v := h.2 0 a v rfl rfl
theorem open_i64 (ht : P.underlying t = some (.int .i64)) (hval : Value.okWide P w .any b0 t v) (h : DataW.Trod enc P w 0 (fun _ => true) true t v d ps) :
    ∃ n : Int, (-9223372036854775808 ≤ n ∧ n ≤ 9223372036854775807) ∧ ∃ N0, ∀ N, N0 ≤ N → VR w (bigR N w) (.int .i64 n) v := by
  obtain ⟨n, rfl, _⟩ := open_int ht hval h
  obtain ⟨a, ha, N0, hN⟩ := open_plain (fun _ h => by cases h) (opens_int ht) h
  exact ⟨a, ha, N0, fun N h => (hN N h).head⟩
theorem open_byte (ht : P.underlying t = some (.int .u8)) (hval : Value.okWide P w .any b0 t v) (h : DataW.Trod enc P w 0 (fun _ => true) true t v d ps) :
    ∃ n : UInt8, True ∧ ∃ N0, ∀ N, N0 ≤ N → VR w (bigR N w) (.int .u8 n.toNat) v := by
  obtain ⟨n, rfl, _⟩ := open_int ht hval h
  obtain ⟨a, ha, N0, hN⟩ := open_plain (fun _ h => by cases h) (opens_u8 ht) h
  exact ⟨a, ha, N0, fun N h => (hN N h).head⟩
theorem open_w32 (ht : P.underlying t = some (.int .u32)) (hval : Value.okWide P w .any b0 t v) (h : DataW.Trod enc P w 0 (fun _ => true) true t v d ps) :
    ∃ n : UInt32, True ∧ ∃ N0, ∀ N, N0 ≤ N → VR w (bigR N w) (.int .u32 n.toNat) v := by
  obtain ⟨n, rfl, _⟩ := open_int ht hval h
  obtain ⟨a, ha, N0, hN⟩ := open_plain (fun _ h => by cases h) (opens_u32 ht) h
  exact ⟨a, ha, N0, fun N h => (hN N h).head⟩
theorem open_w64 (ht : P.underlying t = some (.int .u64)) (hval : Value.okWide P w .any b0 t v) (h : DataW.Trod enc P w 0 (fun _ => true) true t v d ps) :
    ∃ n : UInt64, True ∧ ∃ N0, ∀ N, N0 ≤ N → VR w (bigR N w) (.int .u64 n.toNat) v := by
  obtain ⟨n, rfl, _⟩ := open_int ht hval h
  obtain ⟨a, ha, N0, hN⟩ := open_plain (fun _ h => by cases h) (opens_u64 ht) h
  exact ⟨a, ha, N0, fun N h => (hN N h).head⟩
theorem open_truth (ht : P.underlying t = some .bool) (hval : Value.okWide P w .any b0 t v) (h : DataW.Trod enc P w 0 (fun _ => true) true t v d ps) :
    ∃ b : Bool, True ∧ ∃ N0, ∀ N, N0 ≤ N → VR w (bigR N w) (.bool b) v := by
  obtain ⟨n, rfl, _⟩ := open_bool ht hval h
  exact ⟨n, trivial, 0, fun N _ => .bool n⟩
theorem open_text (ht : P.underlying t = some .string) (hval : Value.okWide P w .any b0 t v) (h : DataW.Trod enc P w 0 (fun _ => true) true t v d ps) :
    ∃ s : Str, s.b.length ≤ maxLen ∧ ∃ N0, ∀ N, N0 ≤ N → VR w (bigR N w) (.str s.b) v := by
  obtain ⟨n, rfl, _⟩ := Go.ChangeMaps.open_string ht hval h
  obtain ⟨a, ha, N0, hN⟩ := open_plain (fun _ h => by cases h) (opens_str ht) h
  exact ⟨a, ha, N0, fun N h => (hN N h).head⟩
end
theorem args1 {w : World} {R : Nat → Nat} {a0 : AV} {v0 : Value} (h0 : VR w R a0 v0) : ArgsR w R [a0] #[v0] :=
  ⟨rfl, fun j a v h1 h2 => by match j, h1, h2 with | 0, h1, h2 => (cases h1; cases h2; exact h0)⟩
theorem args2 {w : World} {R : Nat → Nat} {a0 a1 : AV} {v0 v1 : Value} (h0 : VR w R a0 v0) (h1 : VR w R a1 v1) : ArgsR w R [a0, a1] #[v0, v1] :=
  ⟨rfl, fun j a v k1 k2 => by match j, k1, k2 with | 0, k1, k2 => (cases k1; cases k2; exact h0) | 1, k1, k2 => (cases k1; cases k2; exact h1)⟩
theorem args3 {w : World} {R : Nat → Nat} {a0 a1 a2 : AV} {v0 v1 v2 : Value} (h0 : VR w R a0 v0) (h1 : VR w R a1 v1) (h2 : VR w R a2 v2) : ArgsR w R [a0, a1, a2] #[v0, v1, v2] :=
  ⟨rfl, fun j a v k1 k2 => by match j, k1, k2 with | 0, k1, k2 => (cases k1; cases k2; exact h0) | 1, k1, k2 => (cases k1; cases k2; exact h1) | 2, k1, k2 => (cases k1; cases k2; exact h2)⟩
end
end Go.AB
end

section
namespace Go.AB
open Go
def fieldsAre (P : Program) (t : TypeId) (L : List (TypeId × Nat)) : Bool := match P.underlying t with
  | some (.struct fs) => fs.toList.map (fun f => (f.type, f.offset)) == L
  | _ => false
theorem opens_fields {P : Program} {t : TypeId} {L : List (TypeId × Nat)} {n : Nat} {α : Type} {C : α → List AV} {wf : α → Prop} (hs : fieldsAre P t L = true) (hn : P.cellsOf t = n) (hf : OpensF P L 0 n C wf) : OpensC P t n C wf := by
  unfold fieldsAre at hs
  split at hs
  · rename_i fs ht
    have he := eq_of_beq hs
    exact opens_struct ht hn (by rw [he]; exact hf)
  · cases hs
end Go.AB
end

section
namespace Go.AB
open Go Go.RowKit Go.ChangeShapes Go.WideShapes
def OpensB (K : Nat) (P : Program) (t : TypeId) {α : Type} (n : Nat) (C : α → List AV) (wf : α → Prop) : Prop :=
  ∀ (H : Type) (enc : TypeId × Value → H) (w : World) (fuel : Nat) (cs : List Value) (x : DataW H × List MemPlace), fuel ≤ K → DataW.trod enc P w 0 (fun _ => true) true fuel t cs = some x →
    cs.length = n ∧ ∃ a : α, wf a ∧ Fl (C a) ∧ ∃ N0, ∀ N, N0 ≤ N → VRs w (bigR N w) (C a) cs
def OpensFB (K : Nat) (P : Program) (fs : List (TypeId × Nat)) (o : Nat) {α : Type} (n : Nat) (C : α → List AV) (wf : α → Prop) : Prop :=
  ∀ (H : Type) (enc : TypeId × Value → H) (w : World) (fuel : Nat) (cs : List Value), fuel ≤ K → (∀ f ∈ fs, ∃ x, DataW.trod enc P w 0 (fun _ => true) true fuel f.1 ((cs.drop f.2).take (P.cellsOf f.1)) = some x) →
    ∃ a : α, wf a ∧ Fl (C a) ∧ ∃ N0, ∀ N, N0 ≤ N → VRs w (bigR N w) (C a) ((cs.drop o).take n)
section
variable {P : Program} {t : TypeId}
theorem OpensC.b {n : Nat} {α : Type} {C : α → List AV} {wf : α → Prop} (h : OpensC P t n C wf) (K : Nat) : OpensB K P t n C wf := fun H enc w fuel cs x _ hx => h H enc w fuel cs x hx
theorem OpensB.all {n : Nat} {α : Type} {C : α → List AV} {wf : α → Prop} (h : ∀ K, OpensB K P t n C wf) : OpensC P t n C wf := fun H enc w fuel cs x hx => h fuel H enc w fuel cs x (Nat.le_refl _) hx
theorem OpensB.le {n : Nat} {α : Type} {C : α → List AV} {wf : α → Prop} {K K' : Nat} (h : OpensB K P t n C wf) (hk : K' ≤ K) : OpensB K' P t n C wf := fun H enc w fuel cs x hf hx => h H enc w fuel cs x (Nat.le_trans hf hk) hx
theorem OpensB.zero {n : Nat} {α : Type} {C : α → List AV} {wf : α → Prop} : OpensB 0 P t n C wf := fun H enc w fuel cs x hf hx => by
  have : fuel = 0 := by omega
  subst this
  simp [DataW.trod] at hx
theorem OpensB.map {K n : Nat} {α β : Type} {C : α → List AV} {wf : α → Prop} (h : OpensB K P t n C wf) {C' : β → List AV} {wf' : β → Prop} (g : α → β) (hC : ∀ a, C' (g a) = C a) (hw : ∀ a, wf a → wf' (g a)) : OpensB K P t n C' wf' := by
  intro H enc w fuel cs x hf hx
  obtain ⟨h1, a, h2, h3, N0, h4⟩ := h H enc w fuel cs x hf hx
  exact ⟨h1, g a, hw a h2, by rw [hC]; exact h3, N0, by rw [hC]; exact h4⟩
theorem opensFB_nil {K o : Nat} : OpensFB K P [] o 0 (fun _ : Unit => []) fun _ => True :=
  fun _ _ _ _ _ _ _ => ⟨(), trivial, (fun _ h => absurd h List.not_mem_nil), 0, fun _ _ => ⟨by simp, fun j a v h => by simp at h⟩⟩
theorem opensFB_cons {K : Nat} {t : TypeId} {o n1 n2 : Nat} {fs : List (TypeId × Nat)} {α β : Type} {C1 : α → List AV} {C2 : β → List AV} {wf1 : α → Prop} {wf2 : β → Prop}
    (h1 : OpensB K P t n1 C1 wf1) (hc : P.cellsOf t = n1) (h2 : OpensFB K P fs (o + n1) n2 C2 wf2) : OpensFB K P ((t, o) :: fs) o (n1 + n2) (fun p : α × β => C1 p.1 ++ C2 p.2) fun p => wf1 p.1 ∧ wf2 p.2 := by
  intro H enc w fuel cs hk h
  obtain ⟨x, hx⟩ := h _ List.mem_cons_self
  obtain ⟨_, a, ha, hfa, N1, hN1⟩ := h1 H enc w fuel _ x hk hx
  obtain ⟨b, hb, hfb, N2, hN2⟩ := h2 H enc w fuel cs hk fun f hf => h f (List.mem_cons_of_mem _ hf)
  refine ⟨(a, b), ⟨ha, hb⟩, fun c hc => (List.mem_append.1 hc).elim (hfa c) (hfb c), max N1 N2, fun N hN => ?_⟩
  rw [List.take_add, List.drop_drop]
  refine VRs.append ?_ (hN2 N (by omega))
  rw [← hc]
  exact hN1 N (by omega)
theorem opens_fieldsB {K : Nat} {L : List (TypeId × Nat)} {n : Nat} {α : Type} {C : α → List AV} {wf : α → Prop} (hs : fieldsAre P t L = true) (hn : P.cellsOf t = n) (hf : OpensFB K P L 0 n C wf) : OpensB (K + 1) P t n C wf := by
  unfold fieldsAre at hs
  split at hs
  · rename_i fs ht
    have he := eq_of_beq hs
    subst he
    intro H enc w fuel cs x hk h
    obtain ⟨xs, m, rfl, _, hl, hxl, hel⟩ := DataW.trod_struct ht h
    obtain ⟨a, ha, hfa, N0, hN⟩ := hf H enc w m cs (by omega) fun f hf => by
      obtain ⟨g, hg, rfl⟩ := List.mem_map.1 hf
      obtain ⟨i, hi⟩ := List.getElem?_of_mem hg
      have h1 := hel i g (by rw [← Array.getElem?_toList]; exact hi)
      have hi' := (List.getElem?_eq_some_iff.1 hi).1
      rw [List.getElem?_eq_getElem (by simpa [hxl] using hi')] at h1
      exact ⟨_, h1⟩
    refine ⟨by rw [hl, hn], a, ha, hfa, N0, fun N h => ?_⟩
    have := hN N h
    rwa [List.drop_zero, List.take_of_length_le (by omega)] at this
  · cases hs
theorem slice_cell {w : World} {α : Type} [Enc α] {wf : α → Prop} {a : Addr} {len cap : Nat} (hl : len ≤ cap) (hm : cap ≤ maxLen)
    (each : ∀ i, i < len → ∃ x : α × List Value, wf x.1 ∧ Fl (Enc.cells x.1) ∧ w.cells? 0 (a.add (i * Enc.w α)) (Enc.w α) = some x.2 ∧ ∃ N0, ∀ N, N0 ≤ N → VRs w (bigR N w) (Enc.cells x.1) x.2) :
    ∃ l : List α, (l.length ≤ maxLen ∧ ∀ a ∈ l, wf a) ∧ Fl [.sl false (Enc.w α) l.length (flat l)] ∧ ∃ N0, ∀ N, N0 ≤ N → VRs w (bigR N w) [.sl false (Enc.w α) l.length (flat l)] [.slice (some a) len cap] := by
  have hw : 0 < Enc.w α := Enc.pos
  rcases Nat.eq_zero_or_pos len with h0 | h0
  · subst h0
    exact ⟨[], ⟨Nat.zero_le _, fun _ h => absurd h List.not_mem_nil⟩, fl_one rfl, 0, fun N _ => .one (.sle _ _ _)⟩
  obtain ⟨b, off, spot⟩ := a
  have hplain : spot = none ∧ b < w.heap.size := by
    obtain ⟨x, _, _, h2, _⟩ := each 0 h0
    obtain ⟨_, h3, h4⟩ := World.cells?_some h2
    have h5 := h4 0 hw
    have hxl : 0 < x.2.length := by omega
    rw [List.getElem?_eq_getElem hxl] at h5
    unfold World.cell? at h5
    have e1 : (((⟨b, off, spot⟩ : Addr).add (0 * Enc.w α)).add 0).block = b := by
      unfold Addr.add; repeat' split
      all_goals rfl
    have e2 : (((⟨b, off, spot⟩ : Addr).add (0 * Enc.w α)).add 0).spot.isSome = spot.isSome := by
      cases spot with
      | none => unfold Addr.add; repeat' split
                all_goals simp_all
      | some q => unfold Addr.add; repeat' split
                  all_goals simp_all
    rw [e1, e2] at h5
    split at h5
    · rename_i hh
      refine ⟨?_, (Array.getElem?_eq_some_iff.1 hh).1⟩
      cases spot with
      | none => rfl
      | some q => simp at h5
    · cases h5
  obtain ⟨rfl, hb⟩ := hplain
  obtain ⟨L, hL, hQ⟩ := choose_list len each
  have hx : ∀ i, i < len → ∃ x, L[i]? = some x := fun i hi => ⟨L[i]'(by omega), List.getElem?_eq_getElem (by omega)⟩
  obtain ⟨N0, hN0⟩ := common (Q := fun i N => ∀ x, L[i]? = some x → VRs w (bigR N w) (Enc.cells x.1) x.2) len fun i hi => by
    obtain ⟨x, hx⟩ := hx i hi
    obtain ⟨_, _, _, N0, h⟩ := hQ i x hx
    exact ⟨N0, fun N hN y hy => by rw [hx] at hy; cases hy; exact h N hN⟩
  have hwf : ∀ a ∈ L.map (·.1), wf a ∧ Fl (Enc.cells a) := by
    intro a ha
    obtain ⟨x, hx, rfl⟩ := List.mem_map.1 ha
    obtain ⟨i, hi⟩ := List.getElem?_of_mem hx
    have := hQ i x hi
    exact ⟨this.1, this.2.1⟩
  have hget : ∀ (j : Nat) (c : AV), (flat (L.map (·.1)))[j]? = some c → ∃ v, w.cell? ⟨b, off + j, none⟩ = some v ∧ ∀ N, N0 ≤ N → VR w (bigR N w) c v := by
    intro j c hj
    have hjl := (List.getElem?_eq_some_iff.1 hj).1
    rw [flat_len, List.length_map, hL] at hjl
    have hi : j / Enc.w α < len := Nat.div_lt_of_lt_mul (by rw [Nat.mul_comm]; exact hjl)
    have hr : j % Enc.w α < Enc.w α := Nat.mod_lt _ hw
    have hje : j = j / Enc.w α * Enc.w α + j % Enc.w α := by rw [Nat.mul_comm]; exact (Nat.div_add_mod _ _).symm
    obtain ⟨x, hx⟩ := hx _ hi
    have h1 := flat_get (L.map (·.1)) (i := j / Enc.w α) (a := x.1) (by rw [List.getElem?_map, hx]; rfl) hr
    rw [← hje, hj] at h1
    obtain ⟨_, _, h2, _⟩ := hQ _ x hx
    obtain ⟨_, h3, h4⟩ := World.cells?_some h2
    have h5 := h4 _ hr
    rw [add_plain, add_plain, Nat.add_assoc, ← hje] at h5
    refine ⟨x.2[j % Enc.w α]'(by omega), by rw [h5, List.getElem?_eq_getElem], fun N hN => ?_⟩
    exact (hN0 N hN _ hi x hx).2 _ _ _ h1.symm (List.getElem?_eq_getElem _)
  refine ⟨L.map (·.1), ⟨by rw [List.length_map, hL]; omega, fun a ha => (hwf a ha).1⟩, fl_one rfl, max N0 (off + len * Enc.w α), fun N hN => .one ?_⟩
  rw [List.length_map, hL]
  refine .sl false (Enc.w α) len _ b off cap (fun j => (w.cell? ⟨b, off + j, none⟩).getD default) ?_ ?_ ?_ hl ?_ ?_
  · intro c hcm
    unfold flat at hcm
    obtain ⟨l, hl, hcl⟩ := List.mem_flatten.1 hcm
    obtain ⟨a, ha, rfl⟩ := List.mem_map.1 hl
    exact (hwf a ha).2 c hcl
  · rw [flat_len, List.length_map, hL]
  · rw [flat_len, List.length_map, hL]
    unfold bigR
    rw [if_pos hb]; omega
  · intro j c hj
    obtain ⟨v, h1, _⟩ := hget j c hj
    rw [h1]; rfl
  · intro j c hj
    obtain ⟨v, h1, h2⟩ := hget j c hj
    simp only [h1, Option.getD_some]; exact h2 N (by omega)
theorem opens_sliceB {K : Nat} {e : TypeId} {α : Type} [Enc α] {wf : α → Prop} (ht : P.underlying t = some (.slice e)) (hc : P.cellsOf e = Enc.w α) (he : OpensB K P e (Enc.w α) (Enc.cells : α → List AV) wf) :
    OpensB (K + 1) P t 1 (fun l : List α => [.sl false (Enc.w α) l.length (flat l)]) fun l => l.length ≤ maxLen ∧ ∀ a ∈ l, wf a := by
  intro H enc w fuel cs x hk h
  rcases DataW.trod_slice ht h with ⟨rfl, _⟩ | ⟨a, len, cap, elems, rest, n, rfl, rfl, _, _, hl, hm, hlen, hel, _⟩
  · exact ⟨rfl, [], ⟨Nat.zero_le _, fun _ h => absurd h List.not_mem_nil⟩, fl_one rfl, 0, fun N _ => .one (.slnil _ _)⟩
  · refine ⟨rfl, slice_cell hl hm fun i hi => ?_⟩
    have h1 := hel i hi
    rw [hc, List.getElem?_eq_getElem (by omega), Option.bind_eq_some_iff] at h1
    obtain ⟨cs, h2, h3⟩ := h1
    obtain ⟨_, x, h4, h5, h6⟩ := he H enc w n cs _ (by omega) h3
    exact ⟨(x, cs), h4, h5, h2, h6⟩
theorem opens_sliceC {e : TypeId} {α : Type} [Enc α] {wf : α → Prop} (ht : P.underlying t = some (.slice e)) (hc : P.cellsOf e = Enc.w α) (he : Opens P e α wf) :
    OpensC P t 1 (fun l : List α => [.sl false (Enc.w α) l.length (flat l)]) fun l => l.length ≤ maxLen ∧ ∀ a ∈ l, wf a :=
  OpensB.all fun K => (opens_sliceB ht hc (OpensC.b he K)).le (Nat.le_succ K)
theorem fieldsAre_ex {L : List (TypeId × Nat)} (hs : fieldsAre P t L = true) : ∃ fs, P.underlying t = some (.struct fs) := by
  unfold fieldsAre at hs
  split at hs
  · rename_i fs ht; exact ⟨fs, ht⟩
  · cases hs
theorem okWide_slice {w : World} {e : TypeId} {b0 : Nat} {v : Value} (ht : P.underlying t = some (.slice e)) (hval : Value.okWide P w .any b0 t v) : ∀ cs, v ≠ .agg cs := by
  intro cs h
  subst h
  unfold Value.okWide Cell.okWide Cell.ok at hval
  rw [ht] at hval
  exact hval
theorem open_row {H : Type} {enc : TypeId × Value → H} {w : World} {e : TypeId} {α : Type} [Enc α] {wf : α → Prop} {v : Value} {d : DataW H} {ps : List MemPlace}
    (ht : P.underlying t = some (.slice e)) (hc : P.cellsOf e = Enc.w α) (he : Opens P e α wf) (h : DataW.Trod enc P w 0 (fun _ => true) true t v d ps) (hv : ∀ cs, v ≠ .agg cs) :
    ∃ l : List α, (l.length ≤ maxLen ∧ ∀ a ∈ l, wf a) ∧ ∃ N0, ∀ N, N0 ≤ N → VR w (bigR N w) (.sl false (Enc.w α) l.length (flat l)) v := by
  obtain ⟨fuel, hf⟩ := h
  obtain ⟨_, l, hl, _, N0, hN⟩ := opens_sliceC ht hc he H enc w fuel _ _ hf
  have hcells : v.cells.toList = [v] := by
    cases v <;> first | rfl | exact absurd rfl (hv _)
  refine ⟨l, hl, N0, fun N h => ?_⟩
  have := hN N h
  rw [hcells] at this
  exact this.head
end
end Go.AB
end

section
set_option linter.unusedSimpArgs false
namespace Go.AB
open Go Go.AB.Fd Go.ChangeShapes Go.WideShapes Go.ChangeAt Go.RowKit Go.Proofs.YtemfmoalahmbkaaGreat Go.Proofs
inductive wf_api_Value : api_Value → Prop where
  | mk (x : api_Value) (h1 : -9223372036854775808 ≤ x.Kind ∧ x.Kind ≤ 9223372036854775807) (h2 : -9223372036854775808 ≤ x.N ∧ x.N ≤ 9223372036854775807) (h3 : x.S.b.length ≤ maxLen) (h4 : x.L.length ≤ maxLen) (h5 : ∀ v ∈ x.L, wf_api_Value v) : wf_api_Value x
theorem opens_35 : Opens Go.Proofs.Tryz.prog 35 api_Value wf_api_Value := by
  refine OpensB.all fun K => ?_
  induction K using Nat.strongRecOn with | ind K ih =>
  cases K with
  | zero => exact OpensB.zero
  | succ K =>
    have hs : OpensB K Go.Proofs.Tryz.prog 33 1 (fun l : List api_Value => [.sl false 4 l.length (flat l)]) (fun l => l.length ≤ maxLen ∧ ∀ a ∈ l, wf_api_Value a) := by
      cases K with
      | zero => exact OpensB.zero
      | succ k => exact opens_sliceB (by kernel_rfl) (by kernel_rfl) (ih k (by omega))
    exact OpensB.map (opens_fieldsB (L := [(3, 0), (3, 1), (9, 2), (33, 3)]) (by kernel_rfl) (by kernel_rfl) (opensFB_cons ((opens_int (P := Go.Proofs.Tryz.prog) (t := 3) (by kernel_rfl)).b K) (by kernel_rfl) (opensFB_cons ((opens_int (P := Go.Proofs.Tryz.prog) (t := 3) (by kernel_rfl)).b K) (by kernel_rfl) (opensFB_cons ((opens_str (P := Go.Proofs.Tryz.prog) (t := 9) (by kernel_rfl)).b K) (by kernel_rfl) (opensFB_cons hs (by kernel_rfl) opensFB_nil)))))
      (fun p => ⟨p.1, p.2.1, p.2.2.1, p.2.2.2.1⟩) (fun p => by rw [cells_api_Value]; rfl) (fun p h => .mk _ h.1 h.2.1 h.2.2.1 h.2.2.2.1.1 h.2.2.2.1.2)
def wf_api_Object (x : api_Object) : Prop := wf_api_Value x.V ∧ True ∧ x.Data.b.length ≤ maxLen ∧ True
theorem opens_37 : Opens Go.Proofs.Tryz.prog 37 api_Object wf_api_Object :=
  OpensC.map (opens_fields (L := [(35, 0), (4, 4), (9, 5)]) (by kernel_rfl) (by kernel_rfl) (opensF_cons opens_35 (by kernel_rfl) (opensF_cons (opens_bool (P := Go.Proofs.Tryz.prog) (t := 4) (by kernel_rfl)) (by kernel_rfl) (opensF_cons (opens_str (P := Go.Proofs.Tryz.prog) (t := 9) (by kernel_rfl)) (by kernel_rfl) opensF_nil))))
    (fun p => ⟨p.1, p.2.1, p.2.2.1⟩) (fun p => by first | rfl | (simp only [cells_api_Value, cells_api_Object]; rfl)) (fun _ h => h)
theorem opens_43 : OpensC Go.Proofs.Tryz.prog 43 1 (fun l : List api_Object => [.sl false 6 l.length (flat l)]) (fun l => l.length ≤ maxLen ∧ ∀ a ∈ l, wf_api_Object a) := opens_sliceC (by kernel_rfl) (by kernel_rfl) opens_37
def wf_api_Doc (x : api_Doc) : Prop := (x.Objects.length ≤ maxLen ∧ ∀ a ∈ x.Objects, wf_api_Object a) ∧ (-9223372036854775808 ≤ x.Root ∧ x.Root ≤ 9223372036854775807) ∧ True
theorem opens_63 : Opens Go.Proofs.Tryz.prog 63 api_Doc wf_api_Doc :=
  OpensC.map (opens_fields (L := [(43, 0), (3, 1)]) (by kernel_rfl) (by kernel_rfl) (opensF_cons opens_43 (by kernel_rfl) (opensF_cons (opens_int (P := Go.Proofs.Tryz.prog) (t := 3) (by kernel_rfl)) (by kernel_rfl) opensF_nil)))
    (fun p => ⟨p.1, p.2.1⟩) (fun p => by first | rfl | (simp only [cells_api_Value, cells_api_Doc]; rfl)) (fun _ h => h)
theorem law19_FileDocs_own : ownKnob Tryz.prog.godebug = none := by kernel_rfl
theorem law19_FileDocs_laid : laidOutB Tryz.prog = true := by kernel_rfl
theorem law19_FileDocs_ub : Tryz.prog.underlying 4 = some .bool := by kernel_rfl
set_option maxRecDepth 100000 in
theorem law19_FileDocs_law {H : Type} {enc : TypeId × Value → H} {W : World} {base : Nat} {args : Array Value} {ds gs : List (DataW H)} {before : List MemPlace}
    (hval0 : ∀ (j : Nat) t v, Tryz.f6.params[j]? = some t → args[j]? = some v → Value.okWide Tryz.prog W .any base t v)
    (hW : DataW.Whole enc Tryz.prog Tryz.f6.params.toList Rows.fileDocsSpec.vars false W args.toList ds gs before) :
    Calls Tryz.prog 6 args W fun e w' => e = .returned (.bool true) ∧ Below W.heap.size W w' := by
  obtain ⟨p, q, hA0, hV, rfl, hfz, hnd⟩ := hW
  have hval := hval0
  have hA : DataW.TrodAll enc Tryz.prog W 0 (fun _ => true) true Tryz.f6.params.toList args.toList ds p := hA0
  have hp : Tryz.f6.params = #[63, 3] := by kernel_rfl
  rw [hp] at hA hval
  obtain ⟨v0, v1, d0, d1, p0, p1, rfl, rfl, rfl, h0, h1⟩ := trodAll_two hA
  obtain ⟨x0, w0, N0, k0⟩ := open_agg (.inl (fieldsAre_ex (L := [(43, 0), (3, 1)]) (by kernel_rfl))) opens_63 (hval 0 63 v0 rfl rfl) h0
  obtain ⟨x1, w1, N1, k1⟩ := open_i64 (by kernel_rfl) (hval 1 3 v1 rfl rfl) h1
  refine law_calls' (max N0 N1) ?_ (args2 (k0 _ (by omega)) (k1 _ (by omega)))
  exact (law19_FileDocs_fe (law19_FileDocs_true x0 x1)).app rfl
end Go.AB
namespace Go.Proofs.YtemfmoalahmbkaaGreat
open Go.ChangeShapes Go.WideShapes Go.ChangeAt Go.RowKit
set_option maxRecDepth 100000 in
theorem fileDocs_lifted (os : Os) (started : os.Started) (H : Type) (enc : TypeId × Value → H) :
    ReturnsInHanded {} Tryz.checked os 6 .any (Rows.fileDocsSpec.pre6 enc Tryz.prog Tryz.f6 Rows.fileDocsRow.domain false) (Rows.fileDocsSpec.post enc Tryz.prog Tryz.f6 false true false false) := by
  refine returnsInHanded_of_change (C := Tryz.checked) AB.law19_FileDocs_own started (by kernel_rfl) Tryz.func6
    (ChangeSpec.witness6 (enc := enc) (C := Tryz.checked) false ⟨#[], #[.agg #[.slice none 0 0, .int .i64 0], .int .i64 0], []⟩ 8 (by kernel_rfl) (by kernel_rfl) (by kernel_rfl) (by kernel_rfl)) ?_
  intro W base args ds gs before hval hW _ _
  exact AB.law_post rfl (by kernel_rfl) AB.law19_FileDocs_ub AB.law19_FileDocs_laid (of_decide_eq_true (by kernel_rfl)) (fun ds h => by
    match ds, h with
    | [_, _], _ => rfl) hW (AB.law19_FileDocs_law hval hW)
theorem and_t {a b : Bool} (h : a = true) (k : b = true) : (a && b) = true := by rw [h, k]; rfl
theorem fileDocs_k0 : (Rows.fileDocsRow.wf (OpenSpec.ofChange Rows.fileDocsSpec)) = true := by kernel_rfl
theorem fileDocs_k1 : (laidOutB Tryz.checked.prog) = true := by kernel_rfl
theorem fileDocs_k2 : (mapsRowed Tryz.checked.prog) = true := by kernel_rfl
theorem fileDocs_k3 : (Tryz.f6.params.all (Tryz.checked.prog.readableRec ·)) = true := by kernel_rfl
theorem fileDocs_k4 : (namedTie Tryz.checked.prog Rows.fileDocsRow.named Rows.fileDocsSpec.vars) = true := by kernel_rfl
theorem fileDocs_k5 : ((Rows.fileDocsRow.stops == [])) = true := by kernel_rfl
theorem fileDocs_k6 : ((Tryz.checked.prog.stops == [])) = true := by kernel_rfl
theorem fileDocs_k7 : ((Rows.fileDocsRow.knobs == [])) = true := by kernel_rfl
theorem fileDocs_k8 : ((Tryz.checked.prog.stopKnobs == [])) = true := by kernel_rfl
theorem fileDocs_k9 : ((Rows.fileDocsRow.inPlace == Tryz.checked.prog.inPlace 6)) = true := by kernel_rfl
theorem fileDocs_k10 : ((Rows.fileDocsRow.unfollowed == Tryz.checked.prog.unfollowed 6)) = true := by kernel_rfl
theorem fileDocs_k11 : ((Rows.fileDocsRow.recurses == Tryz.checked.prog.recurses 6)) = true := by kernel_rfl
theorem fileDocs_k12 : ((Rows.fileDocsRow.named == Tryz.checked.prog.varsNamed 6)) = true := by kernel_rfl
theorem fileDocs_k13 : ((Rows.fileDocsRow.maps == (Tryz.f6.params.toList ++ Rows.fileDocsSpec.plain.varTypes Tryz.checked.prog).any (Tryz.checked.prog.mapsRec ·))) = true := by kernel_rfl
theorem fileDocs_k14 : ((Rows.fileDocsRow.ifaces == (Tryz.f6.params.toList ++ Rows.fileDocsSpec.plain.varTypes Tryz.checked.prog).any (Tryz.checked.prog.ifacesRec ·))) = true := by kernel_rfl
theorem fileDocs_k15 : ((Rows.fileDocsRow.mapsOut == Tryz.checked.prog.mapsAmong Tryz.f6.resultTypes.toList)) = true := by kernel_rfl
theorem fileDocs_k16 : ((Rows.fileDocsRow.loops == (Tryz.f6.params.toList ++ Rows.fileDocsSpec.plain.varTypes Tryz.checked.prog).any (Tryz.checked.prog.loopsFrom ·))) = true := by kernel_rfl
theorem fileDocs_k17 : ((Rows.fileDocsRow.wideKeys == (Tryz.f6.params.toList ++ Rows.fileDocsSpec.plain.varTypes Tryz.checked.prog ++ Tryz.f6.resultTypes.toList).any (Tryz.checked.prog.wideKeysFrom ·))) = true := by kernel_rfl
theorem fileDocs_k18 : (Rows.fileDocsSpec.vars.all (Tryz.checked.prog.varReadable ·)) = true := by kernel_rfl
theorem fileDocs_k19 : (Tryz.f6.resultTypes.all (fun t => Tryz.checked.prog.readableRec t && decide (t < Tryz.checked.prog.types.size))) = true := by kernel_rfl
theorem fileDocs_k20 : ((Rows.fileDocsRow.ifacesOut == Tryz.f6.resultTypes.toList.any (Tryz.checked.prog.ifacesRec ·))) = true := by kernel_rfl
theorem fileDocs_k21 : ((Rows.fileDocsRow.loopsOut == Tryz.f6.resultTypes.toList.any (Tryz.checked.prog.loopsFrom ·))) = true := by kernel_rfl
theorem fileDocs_k22 : ((Rows.fileDocsRow.plainKeys == Tryz.checked.prog.plainKeys)) = true := by kernel_rfl
theorem fileDocs_k23 : (Rows.fileDocsRow.shortTexts.isNone) = true := by kernel_rfl
theorem fileDocs_k24 : (Tryz.checked.prog.stopsHeard) = true := by kernel_rfl
theorem fileDocs_k25 : (Tryz.checked.prog.mayEnter) = true := by kernel_rfl
theorem fileDocs_k26 : ((Rows.fileDocsRow.lifted == Tryz.checked.prog.liftsFinal)) = true := by kernel_rfl
theorem fileDocs_k27 : ((Tryz.checked.prog.make == some Rows.fileDocsRow.make)) = true := by kernel_rfl
theorem fileDocs_k28 : ((Rows.fileDocsRow.kinds == (if Rows.fileDocsRow.domain.isEmpty then [] else Tryz.f6.params.toList.map fun t => match Tryz.checked.prog.underlying t with | some (.int k) => some k | _ => none))) = true := by kernel_rfl
theorem fileDocs_k29 : ((Rows.fileDocsRow.pinned == Rows.fileDocsRow.pinnedBy)) = true := by kernel_rfl
theorem fileDocs_k30 : ((Rows.fileDocsRow.veiled == (Tryz.f6.params.toList ++ Rows.fileDocsSpec.plain.varTypes Tryz.checked.prog ++ Tryz.f6.resultTypes.toList).any (Tryz.checked.prog.veiledRec ·))) = true := by kernel_rfl
theorem fileDocs_k31 : (Rows.fileDocsRow.veiledFits Tryz.checked.prog Tryz.f6.params.toList (Tryz.f6.params.toList ++ Rows.fileDocsSpec.plain.varTypes Tryz.checked.prog ++ Tryz.f6.resultTypes.toList)) = true := by kernel_rfl
set_option maxRecDepth 100000 in
theorem fileDocs_closed : joinedFacts Tryz.checked.prog 6 Tryz.f6 Rows.fileDocsSpec Rows.fileDocsRow = true := (and_t (and_t (and_t (and_t (and_t (and_t (and_t (and_t (and_t (and_t (and_t (and_t (and_t (and_t (and_t (and_t (and_t (and_t (and_t (and_t (and_t (and_t (and_t (and_t (and_t (and_t (and_t (and_t (and_t (and_t (and_t fileDocs_k0 fileDocs_k1) fileDocs_k2) fileDocs_k3) fileDocs_k4) fileDocs_k5) fileDocs_k6) fileDocs_k7) fileDocs_k8) fileDocs_k9) fileDocs_k10) fileDocs_k11) fileDocs_k12) fileDocs_k13) fileDocs_k14) fileDocs_k15) fileDocs_k16) fileDocs_k17) fileDocs_k18) fileDocs_k19) fileDocs_k20) fileDocs_k21) fileDocs_k22) fileDocs_k23) fileDocs_k24) fileDocs_k25) fileDocs_k26) fileDocs_k27) fileDocs_k28) fileDocs_k29) fileDocs_k30) fileDocs_k31)
theorem fileDocs_holds : Rows.FileDocsSaid :=
  OpenClaim.holds_of_wide 6 Tryz.f6 rfl rfl rfl rfl rfl rfl rfl ⟨rfl, rfl, rfl, rfl, rfl⟩ rfl rfl rfl rfl rfl (by kernel_rfl) Tryz.func6 fileDocs_closed
    (of_decide_eq_true (by kernel_rfl)) (by unfold Func.isWrapper; first | (rw [if_pos (by decide +kernel)]; kernel_rfl) | (rw [if_neg (by decide +kernel)]; exact ⟨rfl, rfl⟩))
    (fun os started H enc _ => fileDocs_lifted os started H enc)
end Go.Proofs.YtemfmoalahmbkaaGreat
end
