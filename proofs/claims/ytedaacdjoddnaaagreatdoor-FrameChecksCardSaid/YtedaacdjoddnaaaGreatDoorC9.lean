/- A part of the proof: Px, Py, Fr, Kd, Kt, Open1, Open2, Open3, Open4, Kw. -/
import Derived.Test.YtedaacdjoddnaaaGreatDoorC7
import Derived.Test.YtedaacdjoddnaaaGreatDoorC5
import Derived.Test.YtedaacdjoddnaaaGreatDoorC6
import Derived.Test.YtedaacdjoddnaaaGreatDoorC8
import Derived.Test.YtedaacdjoddnaaaGreatDoorC4
import Derived.ProofKit
import Derived.OpenShut
import Derived.ChangeCalls
import Derived.Test.YtedaacdjoddnaaaGreatDoorRows
import Derived.Test.YtedaacdjoddnaaaGreatDoorCards
import Derived.Test.YtedaacdjoddnaaaGreatDoorTie
import Derived.JoinedCond
import Derived.Lay
import Derived.LaidOnce
import Derived.SevenTiedAt
import Derived.RowKit
set_option linter.unusedSimpArgs false
set_option linter.unusedVariables false
section
set_option maxRecDepth 4000
namespace Go.AB
open Go
attribute [-go_sem] Nat.add_zero ge_0 part_zero xwp_cons xwpK_eq xalt_cons xalt_nil
def ir_chunk : IC :=
 (.seq (.reg none [i1 2 (.boxS 1 (.t 0)),
 i1 3 (.boxS 1 (.t 1)),
 i1 4 (.mov false (.c (.nilf)))] [2, 3])
 (.seq (.seq (.reg none [i1 5 (.load 1 false (.t 3)),
 i1 6 (.bin .lss (.t 5) (.c (.int .i64 1)))] [2, 3, 6])
 (.cond (.t 6) .dead
 .skip))
 (.seq (.reg none [i1 8 (.makeFn 246 [] [(.t 2), (.t 3)]),
 mv 4 8] [4])
 .ret)))
def res_chunk : List IRes := [⟨4, true, none⟩]
theorem is_chunk : fnIs Go.Proofs.Tryz.prog 209 9 res_chunk ir_chunk = true := by kernel_rfl
def ir_pairs_1 : IC :=
 (.reg none [i1 2 (.mov false (.c (.arr 0 0 0 0))),
 i1 3 (.mov false (.c (.int .i64 0)))] [0])
def ir_pairs_2 : IC :=
 (.reg none [i1 4 (.allocS [.arr 0 0 0 0])] [0, 4])
def ir_pairs_3 : IC :=
 (.reg none [mv 7 0,
 i1 8 (.call 209 [(.t 7), (.c (.int .i64 2))])] [4, 8])
def ir_pairs_4 : IC :=
 (.seq (.reg none [i1 14 (.load 1 false (.t 4)),
 i1 15 (.call 210 [(.t 14), (.c (.fn 211 [] []))])] [4])
 (.seq (.seq (.reg none [i1 6 (.mov false (.c (.int .i64 1)))] [4, 6])
 (.block 2 (.loop [(4, false), (6, false)] (.seq (.seq (.reg none [mv 16 6,
 i1 17 (.load 1 false (.t 4)),
 i1 18 (.len 0 (.t 17)),
 i1 19 (.bin .lss (.t 16) (.t 18))] [4, 6, 19])
 (.cond (.t 19) .skip
 (.exit 2)))
 (.seq (.block 3 (.seq (.reg (some 16) [i1 22 (.load 1 false (.t 4)),
 mv 23 6,
 i1 24 (.indexAddr [.sl false 4 0 []] (.t 22) (.t 23)),
 i1 25 (.load 1 false (.t 24)),
 i1 26 (.indexAddr [.int .i64 0, .int .i64 0, .str [], .sl false 4 0 []] (.t 25) (.c (.int .i64 0))),
 i1 27 (.fieldAddr 2 (.t 26)),
 i1 28 (.load 1 false (.t 27)),
 i1 29 (.load 1 false (.t 4)),
 mv 30 6,
 i1 31 (.bin .sub (.t 30) (.c (.int .i64 1))),
 i1 32 (.indexAddr [.sl false 4 0 []] (.t 29) (.t 31)),
 i1 33 (.load 1 false (.t 32)),
 i1 34 (.indexAddr [.int .i64 0, .int .i64 0, .str [], .sl false 4 0 []] (.t 33) (.c (.int .i64 0))),
 i1 35 (.fieldAddr 2 (.t 34)),
 i1 36 (.load 1 false (.t 35)),
 i1 37 (.bin .eql (.t 28) (.t 36))] [4, 6, 37])
 (.cond (.t 37) (.seq (.reg none [i1 2 (.mov false (.c (.sl true 4 0 []))),
 i1 3 (.mov false (.c (.int .i64 16)))] [2, 3])
 .ret)
 .skip)))
 (.reg none [mv 20 6,
 i1 21 (.bin .add (.t 20) (.c (.int .i64 1))),
 mv 6 21] [4, 6]))))))
 (.seq (.reg none [i1 38 (.load 1 false (.t 4)),
 i1 39 (.call 213 [(.t 38)]),
 i1 2 (.frz 4 true (.t 39)),
 i1 3 (.mov false (.c (.int .i64 0)))] [2, 3])
 .ret)))
def ir_pairs_b : IC :=
 (.block 1 (.reg none [i1 10 (.load 1 false (.t 4)),
 mv 11 5,
 i1 12 (.buildSl 1 1 [.sl false 4 0 []] [(0, 1, (.t 11))]),
 i1 13 (.appendA 1 24 [.sl false 4 0 []] (.t 10) (.t 12)),
 i0 (.store 1 (.t 4) (.t 13))] []))
def res_pairs : List IRes := [⟨2, false, none⟩, ⟨3, true, none⟩]
abbrev slA (l : List api_Value) : AV := .sl false 4 l.length (flat l)
theorem chunk_fn {s : Store} {l : List api_Value} {Q : List AV → Store → Prop} (hq : ∀ Bs, s Bs = none → ∀ Bn, (s.set Bs (.cells [slA l])) Bn = none → Q [.fn 246 [] [.ref Bs 0, .ref Bn 0]] ((s.set Bs (.cells [slA l])).set Bn (.cells [.int .i64 2]))) : FN Go.Proofs.Tryz.prog 209 [slA l, .int .i64 2] s Q := by
 refine FN.of (draw_ok mix) is_chunk rfl (Nat.le_of_ble_eq_true rfl) ?_
 rw [ir_chunk, res_chunk]
 have h0 : decide ((2 : Int) < 1) = false := rfl
 simp -implicitDefEqProofs only [go_sem, start, startE, resVs, resV, resC, allV, retK, Nat.reduceBEq, Nat.reduceAdd, Nat.reduceMul, Nat.reduceLeDiff, Nat.reduceEqDiff, Nat.reduceBNe, Nat.ble_eq, UInt8.reduceToNat, UInt32.reduceToNat]
 intro Bs h1 Bn h2
 simp -implicitDefEqProofs only [go_sem, start, startE, resVs, resV, resC, allV, retK, Nat.reduceBEq, Nat.reduceAdd, Nat.reduceMul, Nat.reduceLeDiff, Nat.reduceEqDiff, Nat.reduceBNe, Nat.ble_eq, UInt8.reduceToNat, UInt32.reduceToNat, h0, Bool.true_eq_false, Bool.false_eq_true, false_implies, true_implies, true_and, and_true]
 exact hq Bs h1 Bn h2
def cA : Code → Code
 | .seq a _ => a
 | c => c
def cB : Code → Code
 | .seq _ b => b
 | c => c
def rfA : Code → Code
 | .rangeFunc _ _ a _ => a
 | c => c
def rfB : Code → Code
 | .rangeFunc _ _ _ b => b
 | c => c
def cIn : Code → Code
 | .block _ c => c
 | c => c
def regOps : Code → Array Oper
 | .region _ ops _ => ops
 | _ => #[]
def icOps : IC → List IOper
 | .block _ (.reg _ l _) => l
 | _ => []
noncomputable def pairsC : Code := (Go.Proofs.Tryz.f167.body).getD .skip
noncomputable def pC1 : Code := cA pairsC
noncomputable def pC2 : Code := cA (cB pairsC)
noncomputable def pC3 : Code := cA (cA (cB (cB pairsC)))
noncomputable def pRf : Code := cIn (cB (cA (cB (cB pairsC))))
noncomputable def pC4 : Code := cB (cB (cB pairsC))
noncomputable def pOps : Array Oper := regOps (cIn (rfB pRf))
theorem pairs_body : Go.Proofs.Tryz.f167.body = some (.seq pC1 (.seq pC2 (.seq (.seq pC3 (.block 0 (.rangeFunc (.tmp 8) #[9] (rfA pRf) (rfB pRf)))) pC4))) := by kernel_rfl
theorem body_b : rfB pRf = .block 1 (.region 4 pOps false) := by kernel_rfl
theorem asg_l : rfA pRf = .region 3 #[{ dst := some 5, op := .assign (.tmp 9), type := 22, pos := "parse.go:116", after := #[], guard := none }] false := by kernel_rfl
theorem pairs_chk1 : chk Go.Proofs.Tryz.prog 40 pC1 ir_pairs_1 = true := by kernel_rfl
theorem pairs_chk2 : chk Go.Proofs.Tryz.prog 40 pC2 ir_pairs_2 = true := by kernel_rfl
theorem pairs_chk3 : chk Go.Proofs.Tryz.prog 40 pC3 ir_pairs_3 = true := by kernel_rfl
theorem pairs_chk4 : chk Go.Proofs.Tryz.prog 40 pC4 ir_pairs_4 = true := by kernel_rfl
theorem pairs_chkb : chkOpers Go.Proofs.Tryz.prog 40 pOps pOps.toList (icOps ir_pairs_b) = true := by kernel_rfl
theorem pairs_nodef : pOps.toList.all noDefer = true := by kernel_rfl
theorem pairs_res : resIs Go.Proofs.Tryz.prog Go.Proofs.Tryz.f167.results.toList res_pairs = true := by kernel_rfl
theorem pairs_nt : Go.Proofs.Tryz.f167.ntmps = 40 := by kernel_rfl
def chunkL (l : List api_Value) (k : Nat) : List api_Value := (l.drop (2 * k)).take 2
def chunksN (l : List api_Value) (k : Nat) : List VL := (List.range k).map (chunkL l)
theorem chunksN_succ (l : List api_Value) (k : Nat) : chunksN l (k + 1) = chunksN l k ++ [chunkL l k] := by
 unfold chunksN; rw [List.range_succ, List.map_append]; rfl
theorem chunksN_len (l : List api_Value) (k : Nat) : (chunksN l k).length = k := by simp [chunksN]
theorem chunkL_len (l : List api_Value) (k : Nat) (h : 2 * k + 2 ≤ l.length) : (chunkL l k).length = 2 := by
 unfold chunkL; rw [List.length_take, List.length_drop]; omega
theorem chunk_vr {w : World} {R : Nat → Nat} {l : List api_Value} {b off k : Nat} (hR : off + (flat l).length ≤ R b) (ha : At w R b off (flat l)) (hk : 2 * k + 2 ≤ l.length) : VR w R (slA (chunkL l k)) (chunkVal b off k) := by
  obtain ⟨u, h1, h2, h3⟩ := ha
  have hs := flat_sub l 4 (2 * k) 2 rfl
  have hl : (flat (chunkL l k)).length = 2 * 4 := by rw [flat_len, chunkL_len l k hk]; rfl
  have hfl : (flat l).length = l.length * 4 := flat_len l
  have hg : ∀ (j : Nat) (c : AV), (flat (chunkL l k))[j]? = some c → (flat l)[2 * k * 4 + j]? = some c := fun j c hj => by
    unfold chunkL at hj
    rw [← hs, sub_get] at hj
    split at hj
    · exact hj
    · cases hj
  unfold slA chunkVal
  rw [chunkL_len l k hk]
  refine .sl false 4 2 _ b _ 2 (fun j => u (2 * k * 4 + j)) (fun c hc => ?_) hl (by omega) (Nat.le_refl _) (fun j c hj => ?_) (fun j c hj => h2 _ c (hg j c hj))
  · obtain ⟨j, hj⟩ := List.mem_iff_getElem?.1 hc
    exact h3 c (List.mem_of_getElem? (hg j c hj))
  · rw [Nat.add_assoc]; exact h1 _ c (hg j c hj)
def nbB (ls : List VL) (i : Int) : Option (Int ⊕ Bool) :=
 bif decide (i < ls.length) then need (1 ≤ i ∧ i < 2 ^ 62 ∧ 0 < (ix ls i).length ∧ 0 < (ix ls (i - 1)).length) <|
  bif (ix (ix ls i) 0).S.b == (ix (ix ls (i - 1)) 0).S.b then some (.inr true) else some (.inl (i + 1))
 else some (.inr false)
def pairsM (l : List api_Value) : Option (List api_Value × Int) :=
 need (0 < l.length ∧ l.length < 40 ∧ l.length % 2 = 0) <| bnd (insM (chunksN l (l.length / 2)) 0 ((l.length / 2 : Nat) : Int)) fun two =>
 need ((two.all fun c => decide (0 < c.length)) = true ∧ two.length = l.length / 2 ∧ two.flatten.length < 1000) <| bnd (iter (nbB two) 1) fun d =>
 bif d then some ([], 16) else some (two.flatten, 0)
theorem rowS_set {s : Store} {r : RowP} {ls : List VL} {B : Nat} {o o' : SO} (h : RowOK s r ls) (hB : s B = some o) : (rowS s r ls).set B o' = rowS (s.set B o') r ls ∧ RowOK (s.set B o') r ls := by
 cases r with
 | none => exact ⟨rfl, h⟩
 | some x =>
  obtain ⟨rb, cap, sp⟩ := x
  obtain ⟨h1, h2⟩ := h
  have hne : B ≠ rb := fun e => by subst e; rw [h1] at hB; cases hB
  refine ⟨set_comm hne, ⟨by rw [set_ne hne.symm]; exact h1, h2⟩⟩
theorem pairs_rest {s s1 : Store} {B2 rb cap : Nat} {sp : List AV} {ls : List VL} {own : Bool} {Q : List AV → Store → Prop} (hB : s1 B2 = some (.cells [.arr rb 0 ls.length cap])) (hrb : s1 rb = none) (hs : Sub s s1) (hl : ls.length < 20) (hl0 : 0 < ls.length)
    (hm : ok (insM ls 0 ls.length) fun two => (∀ c ∈ two, 0 < c.length) ∧ two.length = ls.length ∧ two.flatten.length < 1000 ∧ ok (iter (nbB two) 1) fun d => (d = true → ∀ s', Sub s s' → Q [.sl false 4 0 [], .int .i64 16] s') ∧ (d = false → ∀ s', Sub s s' → Q [.sl false 4 two.flatten.length (flat two.flatten), .int .i64 0] s')) :
    cwp Go.Proofs.Tryz.prog ir_pairs_4 (retK res_pairs Q) ⟨[(4, .ref B2 0)], [], s1.set rb (.cells (flat ls ++ sp))⟩ := by
  have hroom : room = 140737488355328 := rfl
  have hne : B2 ≠ rb := fun e => by subst e; rw [hrb] at hB; cases hB
  have hB' : ∀ cs, (s1.set rb (.cells cs)) B2 = some (.cells [.arr rb 0 ls.length cap]) := fun cs => by rw [set_ne hne]; exact hB
  rw [ir_pairs_4, res_pairs]
  simp -implicitDefEqProofs only [go_sem, start, startE, resVs, resV, resC, allV, retK, Nat.reduceBEq, Nat.reduceAdd, Nat.reduceMul, Nat.reduceLeDiff, Nat.reduceEqDiff, Nat.reduceBNe, Nat.ble_eq, UInt8.reduceToNat, UInt32.reduceToNat, hB']
  refine sortSt_fn hrb hl (ok_mono hm fun two ⟨hpos, hlen, hfl, hn⟩ => ?_)
  rw [← hlen]
  rw [← hlen] at hB' hl hl0
  simp -implicitDefEqProofs only [go_sem, start, startE, resVs, resV, resC, allV, retK, Nat.reduceBEq, Nat.reduceAdd, Nat.reduceMul, Nat.reduceLeDiff, Nat.reduceEqDiff, Nat.reduceBNe, Nat.ble_eq, UInt8.reduceToNat, UInt32.reduceToNat]
  refine iter_to (fun (i : Int) => (⟨[(4, .ref B2 0), (6, .int .i64 i)], [], s1.set rb (.cells (flat two ++ sp))⟩ : St)) rfl ?_ hn
  · intro J i hb
    unfold nbB at hb
    cases hlt : decide (i < two.length) with
    | false =>
      rw [hlt, cond_false, ok_some] at hb
      simp -implicitDefEqProofs only [go_sem, start, startE, resVs, resV, resC, allV, retK, Nat.reduceBEq, Nat.reduceAdd, Nat.reduceMul, Nat.reduceLeDiff, Nat.reduceEqDiff, Nat.reduceBNe, Nat.ble_eq, UInt8.reduceToNat, UInt32.reduceToNat, hB', hlt, Bool.true_eq_false, Bool.false_eq_true, false_implies, true_implies, true_and, and_true]
      simp only [caseS_r] at hb
      refine concat_fn hrb hpos (by omega) (by omega) fun s' r' hs' hr' => ?_
      simp -implicitDefEqProofs only [go_sem, start, startE, resVs, resV, resC, allV, retK, Nat.reduceBEq, Nat.reduceAdd, Nat.reduceMul, Nat.reduceLeDiff, Nat.reduceEqDiff, Nat.reduceBNe, Nat.ble_eq, UInt8.reduceToNat, UInt32.reduceToNat]
      refine frz_row rfl hr' rfl ?_
      simp -implicitDefEqProofs only [go_sem, start, startE, resVs, resV, resC, allV, retK, Nat.reduceBEq, Nat.reduceAdd, Nat.reduceMul, Nat.reduceLeDiff, Nat.reduceEqDiff, Nat.reduceBNe, Nat.ble_eq, UInt8.reduceToNat, UInt32.reduceToNat]
      exact hb.2 trivial s' fun b o h => hs' b o ((hs.set hrb) b o h)
    | true =>
      rw [hlt, cond_true, ok_need] at hb
      obtain ⟨⟨h1, h2, h3, h4⟩, hb⟩ := hb
      have hi : i < two.length := by simpa using hlt
      obtain ⟨r1, r2⟩ := row1 two sp (j := i) (by omega) hi
      obtain ⟨r3, r4⟩ := row1 two sp (j := i - 1) (by omega) (by omega)
      have w1 : w64 (i - 1) = i - 1 := w64_id (by omega) (by omega)
      have w2 : w64 (i + 1) = i + 1 := w64_id (by omega) (by omega)
      generalize hcs : flat two ++ sp = cs at *
      have d1 := decide_eq_true r1
      have d3 := decide_eq_true r3
      simp -implicitDefEqProofs only [go_sem, start, startE, resVs, resV, resC, allV, retK, Nat.reduceBEq, Nat.reduceAdd, Nat.reduceMul, Nat.reduceLeDiff, Nat.reduceEqDiff, Nat.reduceBNe, Nat.ble_eq, UInt8.reduceToNat, UInt32.reduceToNat, hB', hlt, w1, w2, r2, r4, d1, d3, Bool.true_eq_false, Bool.false_eq_true, false_implies, true_implies, true_and, and_true]
      refine ⟨⟨by omega, hi⟩, ⟨Int.le_refl _, by omega⟩, ⟨by omega, by omega⟩, ⟨Int.le_refl _, by omega⟩, fun he => ?_, fun he => ?_⟩
      · rw [he, cond_true, ok_some] at hb
        simp only [caseS_r] at hb
        exact hb.1 trivial _ (hs.set hrb)
      · rw [he, cond_false, ok_some] at hb
        exact hb
def PairsAt (s : Store) (B2 : Nat) (l : List api_Value) (k : Nat) (s' : Store) : Prop := ∃ s1 r, s1 B2 = some (.cells [rowA r k]) ∧ Sub s s1 ∧ RowOK s1 r (chunksN l k) ∧ s' = rowS s1 r (chunksN l k)
theorem pair_body {s : Store} {B2 : Nat} {l : List api_Value} {k : Nat} {s' : Store} (hs0 : s B2 = none) (hk : k < 20) (hch : (chunkL l k).length = 2) (h : PairsAt s B2 l k s') :
    swp Go.Proofs.Tryz.prog (icOps ir_pairs_b) ⟨[(4, .ref B2 0), (5, slA (chunkL l k))], [], s'⟩ fun σ' => PairsAt s B2 l (k + 1) σ'.s := by
  have hroom : room = 140737488355328 := rfl
  obtain ⟨s1, r, h1, h2, h3, rfl⟩ := h
  have hB : rowS s1 r (chunksN l k) B2 = some (.cells [rowA r k]) := rowS_get h3 h1
  have hkl : (chunksN l k).length = k := chunksN_len l k
  generalize hst : rowS s1 r (chunksN l k) = st at hB
  rw [ir_pairs_b, icOps]
  unfold slA
  simp -implicitDefEqProofs only [go_sem, start, startE, resVs, resV, resC, allV, retK, Nat.reduceBEq, Nat.reduceAdd, Nat.reduceMul, Nat.reduceLeDiff, Nat.reduceEqDiff, Nat.reduceBNe, Nat.ble_eq, UInt8.reduceToNat, UInt32.reduceToNat, hB]
  rw [srcV_sl]
  have fin := app_row (σ := ?_) (d := ?_) (K := ?_) (by' := 24) (s := s1) (r := r) (l := chunksN l k) (z := ([] : VL)) (v := (chunkL l k : VL)) (sz := 1) ?_ h3 rfl (by rw [hkl]; omega) ?_
  · rw [hkl] at fin
    exact fin
  · exact hst.symm
  · intro s2 r' g1 g2
    have hB2 : s2 B2 = some (.cells [rowA r k]) := g1 _ _ h1
    have hB3 : rowS s2 r' (chunksN l k ++ [chunkL l k]) B2 = some (.cells [rowA r k]) := rowS_get g2 hB2
    rw [hkl]
    generalize hst2 : rowS s2 r' (chunksN l k ++ [chunkL l k]) = st2 at hB3
    simp -implicitDefEqProofs only [go_sem, start, startE, resVs, resV, resC, allV, retK, Nat.reduceBEq, Nat.reduceAdd, Nat.reduceMul, Nat.reduceLeDiff, Nat.reduceEqDiff, Nat.reduceBNe, Nat.ble_eq, UInt8.reduceToNat, UInt32.reduceToNat, hB3]
    obtain ⟨q1, q2⟩ := rowS_set (o' := .cells [rowA r' (k + 1)]) g2 hB2
    refine ⟨s2.set B2 (.cells [rowA r' (k + 1)]), r', set_same .., fun b o hb => ?_, ?_, ?_⟩
    · have hne : b ≠ B2 := fun e => by subst e; rw [hs0] at hb; cases hb
      rw [set_ne hne]
      exact g1 _ _ (h2 _ _ hb)
    · rw [chunksN_succ]; exact q2
    · rw [chunksN_succ, ← hst2]; exact q1
theorem inv_two {n i j : Nat} {x y : AV} {G : Gh} {W : World} {s : Store} {t : Array Value} (hij : i ≠ j) (hi : i < n) (hj : j < n) (hg : GoodW G W) (hs : StoreR G W s) (ht : t.size = n) (hx : view x = x ∧ isV x = true) (hy : view y = y ∧ isV y = true)
    (h1 : ∀ v, t[i]? = some v → VR W G.R x v) (h2 : ∀ v, t[j]? = some v → VR W G.R y v) : Inv G n [] ⟨[(i, x), (j, y)], [], s⟩ { tmps := t, defers := [] } W := by
  have lk : ∀ k, look [(i, x), (j, y)] k = if i = k then x else if j = k then y else .undef := fun k => by
    rw [look_cons, look_cons]; rfl
  refine ⟨hg, hs, ht, fun k v hk => ?_, fun k hk => ?_, fun k d hd => ?_, rfl⟩
  · show ValS G W _ t k (look [(i, x), (j, y)] k) v
    rw [lk]
    by_cases e1 : i = k
    · subst e1; rw [if_pos rfl, ← hx.1]; exact ValS.mk_view hx.2 (h1 v hk)
    · rw [if_neg e1]
      by_cases e2 : j = k
      · subst e2; rw [if_pos rfl, ← hy.1]; exact ValS.mk_view hy.2 (h2 v hk)
      · rw [if_neg e2]; exact ⟨.undef _, trivial⟩
  · show look [(i, x), (j, y)] k = .undef
    rw [lk, if_neg (by omega), if_neg (by omega)]
  · have hd : holdsLp (look [(i, x), (j, y)] k) d := hd
    rw [lk] at hd
    split at hd
    · exact (not_holdsLp hx.2 d hd).elim
    · split at hd
      · exact (not_holdsLp hy.2 d hd).elim
      · exact hd.elim
theorem pairs_fe {l : List api_Value} {r : List api_Value × Int} {s : Store} (h : pairsM l = some r) : FE Go.Proofs.Tryz.prog 167 [slA l] s [.sl false 4 r.1.length (flat r.1), .int .i64 r.2] s := by
  unfold pairsM at h
  have h' : ok (pairsM l) fun x => x = r := ⟨r, h, rfl⟩
  unfold pairsM at h'
  simp only [ok_need, ok_bnd] at h'
  obtain ⟨⟨hl0, hl40, hl2⟩, hm⟩ := h'
  obtain ⟨K, hK⟩ : ∃ K, l.length = 2 * K := ⟨l.length / 2, by omega⟩
  have hK2 : l.length / 2 = K := by omega
  rw [hK2] at hm
  have hKlen : (chunksN l K).length = K := chunksN_len l K
  refine FN.weak ?_
  intro G w vs hg ho hs ha
  have hI := start_inv (n := 40) hg hs ha (by rfl) (show 1 ≤ 40 by decide)
  refine callsIn_wide.1 (callsIn_of_wp_marks (n := 3) Go.Proofs.Tryz.func167 pairs_body trivial ?_ rfl)
  rw [pairs_nt]
  have mixed := mix
  refine piece (draw_ok mix) pairs_chk1 hI (Pres.refl G w) (fun σ' => σ' = ⟨[(0, slA l)], [], s⟩) ?_ ?_
  · rw [ir_pairs_1]; unfold slA
    simp -implicitDefEqProofs only [go_sem, start, startE, resVs, resV, resC, allV, retK, Nat.reduceBEq, Nat.reduceAdd, Nat.reduceMul, Nat.reduceLeDiff, Nat.reduceEqDiff, Nat.reduceBNe, Nat.ble_eq, UInt8.reduceToNat, UInt32.reduceToNat]
  rintro G1 σ1 a1 w1 hI1 hp1 rfl
  refine piece (draw_ok mix) pairs_chk2 hI1 hp1 (fun σ' => ∃ B2, s B2 = none ∧ σ' = ⟨[(0, slA l), (4, .ref B2 0)], [], s.set B2 (.cells [.arr 0 0 0 0])⟩) ?_ ?_
  · rw [ir_pairs_2]; unfold slA
    simp -implicitDefEqProofs only [go_sem, start, startE, resVs, resV, resC, allV, retK, Nat.reduceBEq, Nat.reduceAdd, Nat.reduceMul, Nat.reduceLeDiff, Nat.reduceEqDiff, Nat.reduceBNe, Nat.ble_eq, UInt8.reduceToNat, UInt32.reduceToNat]
    intro B2 hB2
    exact ⟨B2, hB2, rfl⟩
  rintro G2 σ2 a2 w2 hI2 hp2 ⟨B2, hB2, rfl⟩
  refine wpIn_seq (piece (draw_ok mix) pairs_chk3 hI2 hp2 (fun σ' => ∃ Bs, (s.set B2 (.cells [.arr 0 0 0 0])) Bs = none ∧ ∃ Bn, ((s.set B2 (.cells [.arr 0 0 0 0])).set Bs (.cells [slA l])) Bn = none ∧
    σ' = ⟨[(4, .ref B2 0), (8, .fn 246 [] [.ref Bs 0, .ref Bn 0])], [], ((s.set B2 (.cells [.arr 0 0 0 0])).set Bs (.cells [slA l])).set Bn (.cells [.int .i64 2])⟩) ?_ ?_)
  · rw [ir_pairs_3]; unfold slA
    simp -implicitDefEqProofs only [go_sem, start, startE, resVs, resV, resC, allV, retK, Nat.reduceBEq, Nat.reduceAdd, Nat.reduceMul, Nat.reduceLeDiff, Nat.reduceEqDiff, Nat.reduceBNe, Nat.ble_eq, UInt8.reduceToNat, UInt32.reduceToNat]
    refine chunk_fn fun Bs h1 Bn h2 => ?_
    simp -implicitDefEqProofs only [go_sem, start, startE, resVs, resV, resC, allV, retK, Nat.reduceBEq, Nat.reduceAdd, Nat.reduceMul, Nat.reduceLeDiff, Nat.reduceEqDiff, Nat.reduceBNe, Nat.ble_eq, UInt8.reduceToNat, UInt32.reduceToNat]
    exact ⟨Bs, h1, Bn, h2, rfl⟩
  rintro G3 σ3 a3 w3 hI3 hp3 ⟨Bs, hBs, Bn, hBn, rfl⟩
  have n1 := hBs
  rw [set_none] at n1
  have n2 := hBn
  rw [set_none] at n2
  have n3 := n2.2
  rw [set_none] at n3
  have hsz := hI3.size
  have e8 : a3.tmps[8]? = some (a3.eval (.tmp 8)) := eval_some (by rw [hsz]; decide)
  have e4 : a3.tmps[4]? = some (a3.eval (.tmp 4)) := eval_some (by rw [hsz]; decide)
  have v8 : VR w3 G3.R (.fn 246 [] [.ref Bs 0, .ref Bn 0]) (a3.eval (.tmp 8)) := (hI3.slots 8 _ e8).1
  have v4 : VR w3 G3.R (.ref B2 0) (a3.eval (.tmp 4)) := (hI3.slots 4 _ e4).1
  obtain ⟨vf, vc, hv8, hvf, _, hvc, hvc2⟩ := VR.inv_fn v8
  obtain rfl : vf = #[] := Array.eq_empty_of_size_eq_zero hvf
  obtain rfl : vc = #[.pointer (some ⟨Bs, 0, none⟩), .pointer (some ⟨Bn, 0, none⟩)] := by
    obtain ⟨vl⟩ := vc
    match vl, hvc, hvc2 with
    | [x, y], _, hvc2 =>
      rw [VR.inv_ref (hvc2 0 _ x rfl rfl), VR.inv_ref (hvc2 1 _ y rfl rfl)]
  have hBx : (((s.set B2 (.cells [.arr 0 0 0 0])).set Bs (.cells [slA l])).set Bn (.cells [.int .i64 2])) Bs = some (.cells [slA l]) := by rw [set_ne n2.1.symm, set_same]
  have hBy : (((s.set B2 (.cells [.arr 0 0 0 0])).set Bs (.cells [slA l])).set Bn (.cells [.int .i64 2])) Bn = some (.cells [.int .i64 2]) := set_same ..
  obtain ⟨hOs, _, cs, ts, hhs, ⟨hcs1, hcs2⟩, _⟩ := hI3.store Bs _ hBx
  obtain ⟨hOn, _, cn, tn, hhn, ⟨hcn1, hcn2⟩, _⟩ := hI3.store Bn _ hBy
  obtain ⟨x, rfl⟩ : ∃ x, cs = #[x] := by
    obtain ⟨cl⟩ := cs
    match cl, hcs1 with
    | [x], _ => exact ⟨x, rfl⟩
  obtain ⟨y, rfl⟩ : ∃ y, cn = #[y] := by
    obtain ⟨cl⟩ := cn
    match cl, hcn1 with
    | [x], _ => exact ⟨x, rfl⟩
  have hx : VR w3 G3.R (slA l) x := (hcs2 0 _ x rfl rfl).1
  have hy : y = .int .i64 2 := VR.inv_int (hcn2 0 _ y rfl rfl).1
  subst hy
  unfold slA at hx
  rcases VR.inv_sl hx with ⟨_, he, _⟩ | ⟨b, off, cap, rfl, hlen, hRb, hcap, hat⟩
  · exact absurd he (by omega)
  refine wpIn_block ?_
  rw [asg_l, body_b]
  let tA : Nat → Array Value := fun k => a3.tmps.setIfInBounds 9 (chunkVal b off k)
  have hfold : ∀ k, ((#[9] : Array Tmp).zip #[chunkVal b off k]).foldl (fun t (p, v) => t.setIfInBounds p v) a3.tmps = tA k := fun k => by simp [tA]
  have hav : ∀ k, k < K → VR w3 G3.R (slA (chunkL l k)) (chunkVal b off k) := fun k hk => chunk_vr hRb hat (by omega)
  refine rf_wp hI3 hv8 (fun args w => run_callFunc Go.Proofs.Tryz.func246 (by kernel_rfl) (by kernel_rfl) args) (K := K) (vals := chunkVal b off) (avs := fun k => slA (chunkL l k)) (S := PairsAt s B2 l) [Bs, Bn] ?_ hav ?_ (fun k => ({ tmps := tA k, defers := [] } : Act).put (some 5) (chunkVal b off k)) ?_ ?_ ?_ ?_
  · intro b' hb'
    simp only [List.mem_cons, List.not_mem_nil, or_false] at hb'
    rcases hb' with rfl | rfl
    · exact outer_sh.2 hOs
    · exact outer_sh.2 hOn
  · refine ⟨_, none, ?_, fun b' o hb' => ?_, rfl, rfl⟩
    · show (if B2 ∈ [Bs, Bn] then none else (((s.set B2 (.cells [.arr 0 0 0 0])).set Bs (.cells [slA l])).set Bn (.cells [.int .i64 2])) B2) = _
      rw [if_neg (by simp only [List.mem_cons, List.not_mem_nil, or_false, not_or]; exact ⟨n1.1.symm, n3.1.symm⟩), set_ne n3.1.symm, set_ne n1.1.symm, set_same]
      rfl
    · have e1 : b' ≠ B2 := fun e => by subst e; rw [hB2] at hb'; cases hb'
      have e2 : b' ≠ Bs := fun e => by subst e; rw [n1.2] at hb'; cases hb'
      have e3 : b' ≠ Bn := fun e => by subst e; rw [n3.2] at hb'; cases hb'
      show (if b' ∈ [Bs, Bn] then none else (((s.set B2 (.cells [.arr 0 0 0 0])).set Bs (.cells [slA l])).set Bn (.cells [.int .i64 2])) b') = _
      rw [if_neg (by simp only [List.mem_cons, List.not_mem_nil, or_false, not_or]; exact ⟨e2, e3⟩), set_ne e3, set_ne e2, set_ne e1]
      exact hb'
  · intro lo J W hbx hdr hY h0
    have c1 : w3.cell? ⟨Bs, 0, none⟩ = some (.slice (some ⟨b, off, none⟩) (2 * K) cap) := by rw [← hK]; simp [World.cell?, hhs]
    have c2 : w3.cell? ⟨Bn, 0, none⟩ = some (.int .i64 2) := by simp [World.cell?, hhn]
    exact chunk1_in (lo := lo) (Bs := Bs) (Bn := Bn) (b := b) (off := off) (K := K) (cap := cap) (by omega) (by omega) (fun k W h => ⟨(World.cell?_of_block (hbx k W h Bs (by simp))).trans c1, (World.cell?_of_block (hbx k W h Bn (by simp))).trans c2⟩) hdr hY h0
  · intro lo k W K' hk
    rw [hfold]
    have hev : ({ tmps := tA k, defers := [] } : Act).eval (.tmp 9) = chunkVal b off k := by
      show (a3.tmps.setIfInBounds 9 (chunkVal b off k)).getD 9 undef = _
      rw [Array.getD_eq_getD_getElem?, Array.getElem?_setIfInBounds_self_of_lt (by rw [hsz]; decide)]
      rfl
    refine wpIn_region_list (wpListIn_plain rfl fun K2 hK2 => ⟨fun _ _ => trivial, ?_⟩)
    rw [← hev] at hk
    exact hK2 _ _ hk
  · intro k hk lo G' W s' g1 g2 g3 hS hv R hR
    refine round_of pairs_chkb pairs_nodef (inv_two (n := 40) (i := 4) (j := 5) (x := .ref B2 0) (y := slA (chunkL l k)) (t := (tA k).setIfInBounds 5 (chunkVal b off k)) (by decide) (by decide) (by decide) g1 g3 ?_ ⟨rfl, rfl⟩ ⟨rfl, rfl⟩ ?_ ?_) (pair_body hB2 (by omega) (chunkL_len l k (by omega)) hS) hR
    · show ((a3.tmps.setIfInBounds 9 _).setIfInBounds 5 _).size = _
      rw [Array.size_setIfInBounds, Array.size_setIfInBounds, hsz]
    · intro v hv4
      have hv4 : ((a3.tmps.setIfInBounds 9 (chunkVal b off k)).setIfInBounds 5 (chunkVal b off k))[4]? = some v := hv4
      rw [Array.getElem?_setIfInBounds_ne (by decide), Array.getElem?_setIfInBounds_ne (by decide), e4, VR.inv_ref v4] at hv4
      injection hv4 with hv4
      rw [← hv4]
      exact .ref _ _
    · intro v hv5
      have hv5 : ((a3.tmps.setIfInBounds 9 (chunkVal b off k)).setIfInBounds 5 (chunkVal b off k))[5]? = some v := hv5
      rw [Array.getElem?_setIfInBounds_self_of_lt (by rw [Array.size_setIfInBounds, hsz]; decide)] at hv5
      injection hv5 with hv5
      rw [← hv5]
      exact hv
  · intro G4 W4 s4 hS hI4 hp4 hdef
    obtain ⟨s1, r1, h1, h2, h3, rfl⟩ := hS
    obtain ⟨rb, cap1, sp, rfl⟩ := row_at h3 (by rw [hKlen]; omega)
    have hlt : w3.heap.size < (w3.alloc (.deferred (some []))).heap.size := by rw [World.size_alloc]; omega
    refine last (draw_ok mix) pairs_chk4 (hI4.keep [4]) hp4 (retK res_pairs fun rs s'' => ∃ s2, Sub s2 s'' ∧ (rs = [.sl false 4 r.1.length (flat r.1), .int .i64 r.2] ∧ s2 = s)) ?_ ?_
    · refine pairs_rest (s := s) (own := true) (by rw [hKlen]; exact h1) h3.1 h2 (by rw [hKlen]; omega) (by rw [hKlen]; omega) ?_
      rw [hKlen]
      refine ok_mono hm fun two ⟨⟨q1, q2, q3⟩, q4⟩ => ⟨fun c hc => ?_, q2, q3, ok_mono q4 fun d hd => ⟨fun e s' hs' => ?_, fun e s' hs' => ?_⟩⟩
      · have := List.all_eq_true.1 q1 c hc
        simpa using this
      · rw [e, cond_true, ok_some] at hd
        subst hd
        exact ⟨s, hs', rfl, rfl⟩
      · rw [e, cond_false, ok_some] at hd
        subst hd
        exact ⟨s, hs', rfl, rfl⟩
    · intro x G5 σ' a' W5 k1 k2 k3
      have hfin : ∀ (hall : allV (resVs σ' res_pairs) = true) (hq : ∃ s2, Sub s2 σ'.s ∧ (resVs σ' res_pairs = [.sl false 4 r.1.length (flat r.1), .int .i64 r.2] ∧ s2 = s)), _ := fun hall hq =>
        ret_mark (Q := fun rs s'' => ∃ s2, Sub s2 s'' ∧ (rs = [.sl false 4 r.1.length (flat r.1), .int .i64 r.2] ∧ s2 = s)) pairs_res k1 ((hp3.trans (alloc_facts hI3.good _ .frame 0).2.1).trans k2) (k2.frameO _ hlt (by simp)).1 ((k2.frameO _ hlt (by simp)).2.trans (by simp)) ((k2.frame _ hlt (.inl (by simp))).trans (World.alloc_heap_new w3 _)) hp3.size hall hq
      cases x with
      | ret => exact hfin k3.1 k3.2
      | normal => exact hfin k3.1 k3.2
      | _ => exact k3.elim
theorem pairsOK : PairsOK pairsM := fun _ _ _ h => pairs_fe h
def parse_Value (b : List UInt8) (a : Int) (last : Bool) : Option (api_Value × Int × Int) := parse_ValueM pairsM b a last
theorem parse_Value_fe {b : List UInt8} {a : Int} {last : Bool} {s : Store} {r : api_Value × Int × Int} (h : parse_Value b a last = some r) : FE Go.Proofs.Tryz.prog 57 [.sl false 1 b.length (flat b), .int .i64 a, .bool last] s
  [.agg [.int .i64 r.1.Kind, .int .i64 r.1.N, .str r.1.S.b, .sl false 4 r.1.L.length (flat r.1.L)], .int .i64 r.2.1, .int .i64 r.2.2] s :=
 FN.weak (value_fn pairsOK ⟨r, h, fun s' hs => ⟨s, hs, rfl, rfl⟩⟩)
end Go.AB
end

section

end

section
set_option maxRecDepth 4000
namespace Go.AB
open Go
attribute [-go_sem] xwp_cons xwpK_eq xalt_cons xalt_nil
structure frame_place where
 b_ : (List UInt8)
 at_ : Int
 last_ : Bool
instance : Enc frame_place := ⟨3, fun x => [.sl false 1 x.b_.length (flat x.b_), .int .i64 x.at_, .bool x.last_], (frame_place.mk [] 0 false), by decide, fun _ => rfl, fun _ => rfl⟩
structure frame_reader where
 place_ : frame_place
 e_ : Int
instance : Enc frame_reader := ⟨4, fun x => [.sl false 1 x.place_.b_.length (flat x.place_.b_), .int .i64 x.place_.at_, .bool x.place_.last_, .int .i64 x.e_], (frame_reader.mk (frame_place.mk [] 0 false) 0), by decide, fun _ => rfl, fun _ => rfl⟩
def frame_reader_fail (r_0 : frame_reader) (e_1 : Int) : Option (frame_reader) :=
 if r_0.e_ == 0 then
  some (frame_reader.mk r_0.place_ e_1)
 else
  some r_0
def ir_frame_reader_fail : IC :=
 (.seq (.reg none [mv 4 0,
 nc 5 4,
 fa 6 3 5,
 i1 7 (.loadR [.int .i64 0] false (.t 6)),
 bn 8 .eql 7 0] [0, 1, 8])
 (.cond (.t 8) (.reg none [mv 9 0,
 mv 10 1,
 nc 11 9,
 fa 12 3 11,
 st 1 12 10] [])
 .skip))
def res_frame_reader_fail : List IRes := []
theorem is_frame_reader_fail : fnIs Go.Proofs.Tryz.prog 59 13 res_frame_reader_fail ir_frame_reader_fail = true := by kernel_rfl
theorem frame_reader_fail_fn {r_0 e_1} {B0 : Nat} {s : Store} {Q : List AV → Store → Prop} (hB0 : s B0 = some (.cells [.sl false 1 r_0.place_.b_.length (flat r_0.place_.b_), .int .i64 r_0.place_.at_, .bool r_0.place_.last_, .int .i64 r_0.e_])) : ok (frame_reader_fail r_0 e_1) (fun r => Q [] (s.set B0 (.cells [.sl false 1 r.place_.b_.length (flat r.place_.b_), .int .i64 r.place_.at_, .bool r.place_.last_, .int .i64 r.e_]))) → FN Go.Proofs.Tryz.prog 59 [.ref B0 0, .int .i64 e_1] s Q := by
 have hS : s = (s.set B0 (.cells [.sl false 1 r_0.place_.b_.length (flat r_0.place_.b_), .int .i64 r_0.place_.at_, .bool r_0.place_.last_, .int .i64 r_0.e_])) := by simp only [set_eq' hB0]
 rw [hS]
 intro h
 refine FN.of (draw_ok mix) is_frame_reader_fail rfl (Nat.le_of_ble_eq_true rfl) ?_
 revert h
 rw [ir_frame_reader_fail, res_frame_reader_fail, frame_reader_fail]
 repeat' (first
  | simp -implicitDefEqProofs only [go_sem, seval])
def frame_reader_word (r_0 : frame_reader) (w_1 : Str) : Option (frame_reader) :=
 if r_0.e_ != 0 then
  some r_0
 else
  bnd (parse_Word r_0.place_.b_ r_0.place_.at_ r_0.place_.last_ w_1) fun r1 =>
  some (frame_reader.mk (frame_place.mk r_0.place_.b_ r1.1 r_0.place_.last_) r1.2)
def ir_frame_reader_word : IC :=
 (.seq (.seq (.reg none [mv 4 0,
 nc 5 4,
 fa 6 3 5,
 i1 7 (.loadR [.int .i64 0] false (.t 6)),
 bn 8 .neq 7 0] [0, 1, 8])
 (.cond (.t 8) .ret
 .skip))
 (.regB [] [(1, 0, mv 10 0),
 (1, 1, mv 11 0),
 (0, 2, mv 12 0),
 (0, 3, nc 13 12),
 (0, 4, fa 14 0 13),
 (0, 5, fa 15 0 14),
 (0, 6, i1 16 (.loadR [.sl false 1 0 []] false (.t 15))),
 (0, 7, mv 17 0),
 (0, 8, nc 18 17),
 (0, 9, fa 19 0 18),
 (0, 10, fa 20 1 19),
 (0, 11, i1 21 (.loadR [.int .i64 0] false (.t 20))),
 (0, 12, mv 22 0),
 (0, 13, nc 23 22),
 (0, 14, fa 24 0 23),
 (0, 15, fa 25 2 24),
 (0, 16, i1 26 (.loadR [.bool false] false (.t 25))),
 (0, 17, mv 27 1),
 (2, 18, i1 28 (.call 56 [(.t 16), (.t 21), (.t 26), (.t 27)])),
 (0, 19, i1 9 (.movT (.t 28))),
 (0, 20, ex 29 9 0),
 (1, 21, ex 30 9 1),
 (0, 22, nc 31 10),
 (0, 23, fa 32 0 31),
 (0, 24, fa 33 1 32),
 (2, 25, st 1 33 29),
 (0, 26, nc 34 11),
 (0, 27, fa 35 3 34),
 (2, 28, st 1 35 30)] []))
def res_frame_reader_word : List IRes := []
theorem is_frame_reader_word : fnIs Go.Proofs.Tryz.prog 31 36 res_frame_reader_word ir_frame_reader_word = true := by kernel_rfl
theorem frame_reader_word_fn {r_0 w_1} {B0 : Nat} {s : Store} {Q : List AV → Store → Prop} (hB0 : s B0 = some (.cells [.sl false 1 r_0.place_.b_.length (flat r_0.place_.b_), .int .i64 r_0.place_.at_, .bool r_0.place_.last_, .int .i64 r_0.e_])) : ok (frame_reader_word r_0 w_1) (fun r => Q [] (s.set B0 (.cells [.sl false 1 r.place_.b_.length (flat r.place_.b_), .int .i64 r.place_.at_, .bool r.place_.last_, .int .i64 r.e_]))) → FN Go.Proofs.Tryz.prog 31 [.ref B0 0, .str w_1.b] s Q := by
 have hS : s = (s.set B0 (.cells [.sl false 1 r_0.place_.b_.length (flat r_0.place_.b_), .int .i64 r_0.place_.at_, .bool r_0.place_.last_, .int .i64 r_0.e_])) := by simp only [set_eq' hB0]
 rw [hS]
 intro h
 refine FN.of (draw_ok mix) is_frame_reader_word rfl (Nat.le_of_ble_eq_true rfl) ?_
 revert h
 rw [ir_frame_reader_word, res_frame_reader_word, frame_reader_word]
 repeat' (first
  | with_reducible exact tt_to
  | with_reducible refine and_to ?_ ?_
  | with_reducible refine im_to ?_
  | with_reducible refine call_to (fun _ (h : parse_Word r_0.place_.b_ r_0.place_.at_ r_0.place_.last_ w_1 = some _) => parse_Word_fe h) (fun r1 => ?_)
  | simp -implicitDefEqProofs only [go_sem, seval])
def frame_reader_number (r_0 : frame_reader) (from_1 : Int) (to_2 : Int) : Option (Int × frame_reader) :=
 if r_0.e_ != 0 then
  some (0, r_0)
 else
  bnd (parse_Number r_0.place_.b_ r_0.place_.at_ r_0.place_.last_) fun r1 =>
  jn (
   if (r1.2.2 == 0) && ((decide (r1.1 < from_1)) || (decide (r1.1 > to_2))) then
    some 18
   else
    some r1.2.2) fun (e4 : Int) =>
  some (r1.1, (frame_reader.mk (frame_place.mk r_0.place_.b_ r1.2.1 r_0.place_.last_) e4))
def ir_frame_reader_number : IC :=
 (.seq (.reg none [mi 6 0] [0, 1, 2])
 (.seq (.seq (.reg none [mv 10 0,
 nc 11 10,
 fa 12 3 11,
 i1 13 (.loadR [.int .i64 0] false (.t 12)),
 bn 14 .neq 13 0] [0, 1, 2, 14])
 (.cond (.t 14) (.seq (.reg none [mi 6 0] [6])
 .ret)
 .skip))
 (.seq (.reg (some 23) [mv 16 0,
 nc 17 16,
 fa 18 0 17,
 fa 19 0 18,
 i1 20 (.loadR [.sl false 1 0 []] false (.t 19)),
 mv 21 0,
 nc 22 21,
 fa 23 0 22,
 fa 24 1 23,
 i1 25 (.loadR [.int .i64 0] false (.t 24)),
 mv 26 0,
 nc 27 26,
 fa 28 0 27,
 fa 29 2 28,
 i1 30 (.loadR [.bool false] false (.t 29)),
 c3 31 55 20 25 30,
 i1 15 (.movT (.t 31)),
 ex 32 15 0,
 ex 33 15 1,
 ex 34 15 2,
 mv 7 32,
 mv 8 33,
 mv 9 34] [0, 1, 2, 7, 8, 9])
 (.join [(0, false), (7, false), (8, false), (9, false)] (.seq (.reg none [mv 35 9,
 bn 36 .eql 35 0,
 mv 37 36,
 mvg 38 7 37 true,
 mvg 39 1 37 true,
 i1g 40 37 true (.bin .lss (.t 38) (.t 39)),
 mvg 41 40 37 true,
 mvg 42 7 41 false,
 mvg 43 2 41 false,
 i1g 44 41 false (.bin .gtr (.t 42) (.t 43)),
 i1g 45 37 true (.pick (.t 41) (.c (.bool true)) (.t 44)),
 pf 46 37 45] [0, 7, 8, 9, 46])
 (.cond (.t 46) (.reg none [mi 9 18] [0, 7, 8, 9])
 .skip))
 (.seq (.reg none [mv 47 0,
 mv 48 0,
 mv 49 8,
 mv 50 9,
 nc 51 47,
 fa 52 0 51,
 fa 53 1 52,
 st 1 53 49,
 nc 54 48,
 fa 55 3 54,
 st 1 55 50] [7])
 (.seq (.reg none [mv 56 7,
 mv 6 56] [6])
 .ret))))))
def res_frame_reader_number : List IRes := [⟨6, true, none⟩]
theorem is_frame_reader_number : fnIs Go.Proofs.Tryz.prog 30 57 res_frame_reader_number ir_frame_reader_number = true := by kernel_rfl
theorem frame_reader_number_fn {r_0 from_1 to_2} {B0 : Nat} {s : Store} {Q : List AV → Store → Prop} (hB0 : s B0 = some (.cells [.sl false 1 r_0.place_.b_.length (flat r_0.place_.b_), .int .i64 r_0.place_.at_, .bool r_0.place_.last_, .int .i64 r_0.e_])) : ok (frame_reader_number r_0 from_1 to_2) (fun r => Q [.int .i64 r.1] (s.set B0 (.cells [.sl false 1 r.2.place_.b_.length (flat r.2.place_.b_), .int .i64 r.2.place_.at_, .bool r.2.place_.last_, .int .i64 r.2.e_]))) → FN Go.Proofs.Tryz.prog 30 [.ref B0 0, .int .i64 from_1, .int .i64 to_2] s Q := by
 have hS : s = (s.set B0 (.cells [.sl false 1 r_0.place_.b_.length (flat r_0.place_.b_), .int .i64 r_0.place_.at_, .bool r_0.place_.last_, .int .i64 r_0.e_])) := by simp only [set_eq' hB0]
 rw [hS]
 intro h
 refine FN.of (draw_ok mix) is_frame_reader_number rfl (Nat.le_of_ble_eq_true rfl) ?_
 revert h
 rw [ir_frame_reader_number, res_frame_reader_number, frame_reader_number]
 repeat' (first
  | with_reducible exact tt_to
  | with_reducible refine and_to ?_ ?_
  | with_reducible refine im_to ?_
  | with_reducible refine call_to_q (fun _ (h : parse_Number r_0.place_.b_ r_0.place_.at_ r_0.place_.last_ = some _) => parse_Number_fe h) (fun _ => rfl) (fun r1 => ?_)
  | ((with_reducible refine join_to (fun (e4 : Int) => ⟨[(0, .ref B0 0), (7, .int .i64 r1.1), (8, .int .i64 r1.2.1), (9, .int .i64 e4)], [], (s.set B0 (.cells [.sl false 1 r_0.place_.b_.length (flat r_0.place_.b_), .int .i64 r_0.place_.at_, .bool r_0.place_.last_, .int .i64 r_0.e_]))⟩) (fun J => ?_) ?_); rotate_left; rintro e4)
  | simp -implicitDefEqProofs only [go_sem, seval])
def frame_reader_value (r_0 : frame_reader) : Option (api_Value × frame_reader) :=
 if r_0.e_ != 0 then
  some ((api_Value.mk 0 0 (Str.mk []) ([] : List api_Value)), r_0)
 else
  bnd (parse_Value r_0.place_.b_ r_0.place_.at_ r_0.place_.last_) fun r1 =>
  some (r1.1, (frame_reader.mk (frame_place.mk r_0.place_.b_ r1.2.1 r_0.place_.last_) r1.2.2))
def ir_frame_reader_value : IC :=
 (.seq (.reg none [i1 2 (.allocL [.int .i64 0, .int .i64 0, .str [], .sl true 4 0 []])] [0, 2])
 (.seq (.seq (.reg none [mv 6 0,
 nc 7 6,
 fa 8 3 7,
 i1 9 (.loadR [.int .i64 0] false (.t 8)),
 bn 10 .neq 9 0] [0, 2, 10])
 (.cond (.t 10) (.seq (.reg none [i1 11 (.build [.int .i64 0, .int .i64 0, .str [], .sl true 4 0 []] []),
 st 4 2 11] [2])
 .ret)
 .skip))
 (.seq (.regT [3] 24 [mv 13 0,
 nc 14 13,
 fa 15 0 14,
 fa 16 0 15,
 i1 17 (.loadR [.sl false 1 0 []] false (.t 16)),
 mv 18 0,
 nc 19 18,
 fa 20 0 19,
 fa 21 1 20,
 i1 22 (.loadR [.int .i64 0] false (.t 21)),
 mv 23 0,
 nc 24 23,
 fa 25 0 24,
 fa 26 2 25,
 i1 27 (.loadR [.bool false] false (.t 26)),
 c3 28 57 17 22 27,
 i1 12 (.movT (.t 28)),
 ex 29 12 0,
 ex 30 12 1,
 ex 31 12 2,
 i1 3 (.allocL [.int .i64 0, .int .i64 0, .str [], .sl true 4 0 []]),
 st 4 3 29,
 mv 4 30,
 mv 5 31] [0, 2, 3, 4, 5])
 (.seq (.reg none [mv 32 0,
 mv 33 0,
 mv 34 4,
 mv 35 5,
 nc 36 32,
 fa 37 0 36,
 fa 38 1 37,
 st 1 38 34,
 nc 39 33,
 fa 40 3 39,
 st 1 40 35] [2, 3])
 (.seq (.reg none [lm 41 4 3,
 st 4 2 41] [2])
 .ret)))))
def res_frame_reader_value : List IRes := [⟨2, false, some (4, true)⟩]
theorem is_frame_reader_value : fnIs Go.Proofs.Tryz.prog 32 42 res_frame_reader_value ir_frame_reader_value = true := by kernel_rfl
theorem frame_reader_value_fn {r_0} {B0 : Nat} {s : Store} {Q : List AV → Store → Prop} (hB0 : s B0 = some (.cells [.sl false 1 r_0.place_.b_.length (flat r_0.place_.b_), .int .i64 r_0.place_.at_, .bool r_0.place_.last_, .int .i64 r_0.e_])) : ok (frame_reader_value r_0) (fun r => Q [.agg [.int .i64 r.1.Kind, .int .i64 r.1.N, .str r.1.S.b, .sl false 4 r.1.L.length (flat r.1.L)]] (s.set B0 (.cells [.sl false 1 r.2.place_.b_.length (flat r.2.place_.b_), .int .i64 r.2.place_.at_, .bool r.2.place_.last_, .int .i64 r.2.e_]))) → FN Go.Proofs.Tryz.prog 32 [.ref B0 0] s Q := by
 have hS : s = (s.set B0 (.cells [.sl false 1 r_0.place_.b_.length (flat r_0.place_.b_), .int .i64 r_0.place_.at_, .bool r_0.place_.last_, .int .i64 r_0.e_])) := by simp only [set_eq' hB0]
 rw [hS]
 intro h
 refine FN.of (draw_ok mix) is_frame_reader_value rfl (Nat.le_of_ble_eq_true rfl) ?_
 revert h
 rw [ir_frame_reader_value, res_frame_reader_value, frame_reader_value]
 repeat' (first
  | with_reducible exact tt_to
  | ((with_reducible refine b_to ?_ ?_); exact rfl)
  | with_reducible refine and_to ?_ ?_
  | with_reducible refine im_to ?_
  | with_reducible refine call_to_q (fun _ (h : parse_Value r_0.place_.b_ r_0.place_.at_ r_0.place_.last_ = some _) => parse_Value_fe h) (fun _ => rfl) (fun r1 => ?_)
  | simp -implicitDefEqProofs only [go_sem, seval])
def frame_reader_streams (r_0 : frame_reader) : Option (Bool × frame_reader) :=
 if r_0.e_ != 0 then
  some (false, r_0)
 else
  bnd (lex_Next r_0.place_.b_ r_0.place_.at_ r_0.place_.last_) fun r1 =>
  jn (
   if r1.2 != 0 then
    some (frame_reader.mk (frame_place.mk r_0.place_.b_ r1.1.To r_0.place_.last_) r1.2)
   else
    if r1.1.Kind == 0 then
     bnd (frame_reader_fail (frame_reader.mk (frame_place.mk r_0.place_.b_ r1.1.To r_0.place_.last_) r1.2) 10) fun r4 =>
     some r4
    else
     if (r1.1.Kind != 6) || ((!(r1.1.S.b == (Str.mk [101, 110, 100, 111, 98, 106]).b)) && (!(r1.1.S.b == (Str.mk [115, 116, 114, 101, 97, 109]).b))) then
      bnd (frame_reader_fail (frame_reader.mk (frame_place.mk r_0.place_.b_ r1.1.To r_0.place_.last_) r1.2) 18) fun r5 =>
      some r5
     else
      some (frame_reader.mk (frame_place.mk r_0.place_.b_ r1.1.To r_0.place_.last_) r1.2)) fun (o3 : frame_reader) =>
  some ((o3.e_ == 0) && (r1.1.S.b == (Str.mk [115, 116, 114, 101, 97, 109]).b), o3)
def ir_frame_reader_streams : IC :=
 (.seq (.reg none [mkk 2 (.bool false)] [0])
 (.seq (.seq (.reg none [mv 5 0,
 nc 6 5,
 fa 7 3 6,
 i1 8 (.loadR [.int .i64 0] false (.t 7)),
 bn 9 .neq 8 0] [0, 9])
 (.cond (.t 9) (.seq (.reg none [mkk 2 (.bool false)] [2])
 .ret)
 .skip))
 (.seq (.regT [3] 22 [mv 11 0,
 nc 12 11,
 fa 13 0 12,
 fa 14 0 13,
 i1 15 (.loadR [.sl false 1 0 []] false (.t 14)),
 mv 16 0,
 nc 17 16,
 fa 18 0 17,
 fa 19 1 18,
 i1 20 (.loadR [.int .i64 0] false (.t 19)),
 mv 21 0,
 nc 22 21,
 fa 23 0 22,
 fa 24 2 23,
 i1 25 (.loadR [.bool false] false (.t 24)),
 c3 26 58 15 20 25,
 i1 10 (.movT (.t 26)),
 ex 27 10 0,
 ex 28 10 1,
 i1 3 (.allocL [.int .i64 0, .int .i64 0, .int .i64 0, .int .i64 0, .int .i64 0, .str [], .sl true 4 0 [], .str []]),
 st 8 3 27,
 mv 4 28] [0, 3, 4])
 (.seq (.reg none [mv 29 0,
 mv 30 0,
 fa 31 2 3,
 ld 32 1 31,
 mv 33 4,
 nc 34 29,
 fa 35 0 34,
 fa 36 1 35,
 st 1 36 32,
 nc 37 30,
 fa 38 3 37,
 st 1 38 33] [0, 3, 4])
 (.join [(0, false), (3, false)] (.block 0 (.seq (.reg none [mv 40 4,
 bn 41 .neq 40 0,
 mv 39 41] [0, 3, 39])
 (.cond (.t 39) .skip
 (.seq (.reg none [fa 43 0 3,
 ld 44 1 43,
 bn 45 .eql 44 0,
 mv 42 45] [0, 3, 42])
 (.cond (.t 42) (.reg none [mv 46 0,
 i1 47 (.call 59 [(.t 46), (.c (.int .i64 10))])] [0, 3])
 (.seq (.reg none [fa 49 0 3,
 ld 50 1 49,
 bn 51 .neq 50 6,
 mv 52 51,
 fg 53 52 false 7 3,
 lg 54 52 false 1 53,
 i1g 55 52 false (.bin .neq (.t 54) (.c (.str [101, 110, 100, 111, 98, 106]))),
 mvg 56 55 52 false,
 fg 57 56 true 7 3,
 lg 58 56 true 1 57,
 i1g 59 56 true (.bin .neq (.t 58) (.c (.str [115, 116, 114, 101, 97, 109]))),
 i1g 60 52 false (.pick (.t 56) (.t 59) (.c (.bool false))),
 po 61 52 60,
 mv 48 61] [0, 3, 48])
 (.cond (.t 48) (.reg none [mv 62 0,
 i1 63 (.call 59 [(.t 62), (.c (.int .i64 18))])] [0, 3])
 .skip)))))))
 (.seq (.reg none [mv 64 0,
 nc 65 64,
 fa 66 3 65,
 i1 67 (.loadR [.int .i64 0] false (.t 66)),
 bn 68 .eql 67 0,
 mv 69 68,
 fg 70 69 true 7 3,
 lg 71 69 true 1 70,
 i1g 72 69 true (.bin .eql (.t 71) (.c (.str [115, 116, 114, 101, 97, 109]))),
 pf 73 69 72,
 mv 2 73] [2])
 .ret))))))
def res_frame_reader_streams : List IRes := [⟨2, true, none⟩]
theorem is_frame_reader_streams : fnIs Go.Proofs.Tryz.prog 33 74 res_frame_reader_streams ir_frame_reader_streams = true := by kernel_rfl
theorem frame_reader_streams_fn {r_0} {B0 : Nat} {s : Store} {Q : List AV → Store → Prop} (hB0 : s B0 = some (.cells [.sl false 1 r_0.place_.b_.length (flat r_0.place_.b_), .int .i64 r_0.place_.at_, .bool r_0.place_.last_, .int .i64 r_0.e_])) : ok (frame_reader_streams r_0) (fun r => Q [.bool r.1] (s.set B0 (.cells [.sl false 1 r.2.place_.b_.length (flat r.2.place_.b_), .int .i64 r.2.place_.at_, .bool r.2.place_.last_, .int .i64 r.2.e_]))) → FN Go.Proofs.Tryz.prog 33 [.ref B0 0] s Q := by
 have hS : s = (s.set B0 (.cells [.sl false 1 r_0.place_.b_.length (flat r_0.place_.b_), .int .i64 r_0.place_.at_, .bool r_0.place_.last_, .int .i64 r_0.e_])) := by simp only [set_eq' hB0]
 rw [hS]
 intro h
 refine FN.of (draw_ok mix) is_frame_reader_streams rfl (Nat.le_of_ble_eq_true rfl) ?_
 revert h
 rw [ir_frame_reader_streams, res_frame_reader_streams, frame_reader_streams]
 repeat' (first
  | with_reducible exact tt_to
  | ((with_reducible refine b_to ?_ ?_); exact rfl)
  | with_reducible refine and_to ?_ ?_
  | with_reducible refine im_to ?_
  | with_reducible refine call_to_q (fun _ (h : lex_Next r_0.place_.b_ r_0.place_.at_ r_0.place_.last_ = some _) => lex_Next_fe h) (fun _ => rfl) (fun r1 => ?_)
  | with_reducible refine fun hh => frame_reader_fail_fn (B0 := B0) (by simp -implicitDefEqProofs only [go_sem, seval] <;> simp only [encM_nil])   (ok_mono (show ok (frame_reader_fail (frame_reader.mk (frame_place.mk r_0.place_.b_ r1.1.To r_0.place_.last_) r1.2) 10) _ from hh) fun r4 => ?_)
  | with_reducible refine fun hh => frame_reader_fail_fn (B0 := B0) (by simp -implicitDefEqProofs only [go_sem, seval] <;> simp only [encM_nil])   (ok_mono (show ok (frame_reader_fail (frame_reader.mk (frame_place.mk r_0.place_.b_ r1.1.To r_0.place_.last_) r1.2) 18) _ from hh) fun r5 => ?_)
  | ((with_reducible refine join_to (fun (o3 : frame_reader) => ⟨[(0, .ref B0 0), (3, .loc [.int .i64 r1.1.Kind, .int .i64 r1.1.From, .int .i64 r1.1.To, .int .i64 r1.1.V.Kind, .int .i64 r1.1.V.N, .str r1.1.V.S.b, .sl false 4 r1.1.V.L.length (flat r1.1.V.L), .str r1.1.S.b])], [], (s.set B0 (.cells [.sl false 1 o3.place_.b_.length (flat o3.place_.b_), .int .i64 o3.place_.at_, .bool o3.place_.last_, .int .i64 o3.e_]))⟩) (fun J => ?_) ?_); rotate_left; rintro o3)
  | simp -implicitDefEqProofs only [go_sem, seval])
def frame_place_open (p_0 : frame_place) : Option (Int) :=
 if p_0.last_ then
  some 10
 else
  some 6
def ir_frame_place_open : IC :=
 (.seq (.reg none [mi 2 0] [0])
 (.seq (.seq (.reg none [mv 3 0,
 nc 4 3,
 fa 5 2 4,
 i1 6 (.loadR [.bool false] false (.t 5))] [6])
 (.cond (.t 6) (.seq (.reg none [mi 2 10] [2])
 .ret)
 .skip))
 (.seq (.reg none [mi 2 6] [2])
 .ret)))
def res_frame_place_open : List IRes := [⟨2, true, none⟩]
theorem is_frame_place_open : fnIs Go.Proofs.Tryz.prog 100 7 res_frame_place_open ir_frame_place_open = true := by kernel_rfl
theorem frame_place_open_fn {p_0} {B0 : Nat} {preB0 postB0 : List AV} {oB0 : Nat} {s : Store} {Q : List AV → Store → Prop} (hB0 : s B0 = some (.cells (Wi preB0 [.sl false 1 p_0.b_.length (flat p_0.b_), .int .i64 p_0.at_, .bool p_0.last_] postB0))) (eB0 : preB0.length = oB0) : ok (frame_place_open p_0) (fun r => Q [.int .i64 r] s) → FN Go.Proofs.Tryz.prog 100 [.ref B0 oB0] s Q := by
 subst eB0
 have hS : s = (s.set B0 (.cells (Wi preB0 [.sl false 1 p_0.b_.length (flat p_0.b_), .int .i64 p_0.at_, .bool p_0.last_] postB0))) := by simp only [set_eq' hB0]
 rw [hS]
 intro h
 refine FN.of (draw_ok mix) is_frame_place_open rfl (Nat.le_of_ble_eq_true rfl) ?_
 revert h
 rw [ir_frame_place_open, res_frame_place_open, frame_place_open]
 repeat' (first
  | simp -implicitDefEqProofs only [go_sem, seval])
theorem frame_place_open_fe {p_0} {B0 : Nat} {preB0 postB0 : List AV} {oB0 : Nat} {s : Store} {r : Int} (hB0 : s B0 = some (.cells (Wi preB0 [.sl false 1 p_0.b_.length (flat p_0.b_), .int .i64 p_0.at_, .bool p_0.last_] postB0))) (eB0 : preB0.length = oB0) (h : frame_place_open p_0 = some r) : FE Go.Proofs.Tryz.prog 100 [.ref B0 oB0] s [.int .i64 r] s := frame_place_open_fn hB0 eB0 ⟨r, h, rfl, rfl⟩
def frame_reader_line (r_0 : frame_reader) : Option (frame_reader) :=
 jn (
  need ((decide (r_0.place_.at_ < (r_0.place_.b_.length : Int))) = true → 0 ≤ r_0.place_.at_ ∧ r_0.place_.at_ < r_0.place_.b_.length) <|
  if (decide (r_0.place_.at_ < (r_0.place_.b_.length : Int))) && (((ix r_0.place_.b_ r_0.place_.at_).toNat : Int) == 13) then
   some (frame_reader.mk (frame_place.mk r_0.place_.b_ (w64 (r_0.place_.at_ + 1)) r_0.place_.last_) r_0.e_)
  else
   some r_0) fun (o1 : frame_reader) =>
 if o1.e_ != 0 then
  some o1
 else
  if decide (o1.place_.at_ ≥ (o1.place_.b_.length : Int)) then
   bnd (frame_place_open o1.place_) fun r2 =>
   bnd (frame_reader_fail o1 r2) fun r3 =>
   some r3
  else
   need (0 ≤ o1.place_.at_ ∧ o1.place_.at_ < o1.place_.b_.length) <|
   if ((ix o1.place_.b_ o1.place_.at_).toNat : Int) != 10 then
    bnd (frame_reader_fail o1 18) fun r4 =>
    some r4
   else
    some (frame_reader.mk (frame_place.mk o1.place_.b_ (w64 (o1.place_.at_ + 1)) o1.place_.last_) o1.e_)
def ir_frame_reader_line : IC :=
 (.join [(0, false)] (.seq (.reg (some 27) [mv 2 0,
 nc 3 2,
 fa 4 0 3,
 fa 5 1 4,
 i1 6 (.loadR [.int .i64 0] false (.t 5)),
 mv 7 0,
 nc 8 7,
 fa 9 0 8,
 fa 10 0 9,
 i1 11 (.loadR [.sl false 1 0 []] false (.t 10)),
 le 12 0 11,
 bt 13 .lss 6 12,
 mv 14 13,
 mvg 15 0 14 true,
 i1g 16 14 true (.nilCheck (.t 15)),
 fg 17 14 true 0 16,
 fg 18 14 true 0 17,
 i1g 19 14 true (.loadR [.sl false 1 0 []] false (.t 18)),
 mvg 20 0 14 true,
 i1g 21 14 true (.nilCheck (.t 20)),
 fg 22 14 true 0 21,
 fg 23 14 true 1 22,
 i1g 24 14 true (.loadR [.int .i64 0] false (.t 23)),
 i1g 25 14 true (.indexAddr [.int .u8 0] (.t 19) (.t 24)),
 lg 26 14 true 1 25,
 i1g 27 14 true (.bin .eql (.t 26) (.c (.int .u8 13))),
 pf 28 14 27] [0, 28])
 (.cond (.t 28) (.reg none [mv 29 0,
 nc 30 29,
 fa 31 0 30,
 fa 32 1 31,
 i1 33 (.loadR [.int .i64 0] false (.t 32)),
 bn 34 .add 33 1,
 nc 35 29,
 fa 36 0 35,
 fa 37 1 36,
 st 1 37 34] [0])
 .skip))
 (.block 0 (.seq (.reg none [mv 48 0,
 nc 49 48,
 fa 50 3 49,
 i1 51 (.loadR [.int .i64 0] false (.t 50)),
 bn 52 .neq 51 0,
 mv 47 52] [0, 47])
 (.cond (.t 47) .skip
 (.seq (.reg (some 13) [mv 54 0,
 nc 55 54,
 fa 56 0 55,
 fa 57 1 56,
 i1 58 (.loadR [.int .i64 0] false (.t 57)),
 mv 59 0,
 nc 60 59,
 fa 61 0 60,
 fa 62 0 61,
 i1 63 (.loadR [.sl false 1 0 []] false (.t 62)),
 le 64 0 63,
 bt 65 .geq 58 64,
 mv 53 65] [0, 53])
 (.cond (.t 53) (.reg none [mv 66 0,
 mv 67 0,
 nc 68 67,
 fa 69 0 68,
 c1 70 100 69,
 c2 71 59 66 70] [])
 (.seq (.reg (some 14) [mv 73 0,
 nc 74 73,
 fa 75 0 74,
 fa 76 0 75,
 i1 77 (.loadR [.sl false 1 0 []] false (.t 76)),
 mv 78 0,
 nc 79 78,
 fa 80 0 79,
 fa 81 1 80,
 i1 82 (.loadR [.int .i64 0] false (.t 81)),
 ia 83 [.int .u8 0] 77 82,
 ld 84 1 83,
 bu 85 .neq 84 10,
 mv 72 85] [0, 72])
 (.cond (.t 72) (.reg none [mv 86 0,
 i1 87 (.call 59 [(.t 86), (.c (.int .i64 18))])] [])
 (.reg none [mv 38 0,
 nc 39 38,
 fa 40 0 39,
 fa 41 1 40,
 i1 42 (.loadR [.int .i64 0] false (.t 41)),
 bn 43 .add 42 1,
 nc 44 38,
 fa 45 0 44,
 fa 46 1 45,
 st 1 46 43] [])))))))))
def res_frame_reader_line : List IRes := []
theorem is_frame_reader_line : fnIs Go.Proofs.Tryz.prog 61 88 res_frame_reader_line ir_frame_reader_line = true := by kernel_rfl
theorem frame_reader_line_fn {r_0} {B0 : Nat} {s : Store} {Q : List AV → Store → Prop} (hB0 : s B0 = some (.cells [.sl false 1 r_0.place_.b_.length (flat r_0.place_.b_), .int .i64 r_0.place_.at_, .bool r_0.place_.last_, .int .i64 r_0.e_])) : ok (frame_reader_line r_0) (fun r => Q [] (s.set B0 (.cells [.sl false 1 r.place_.b_.length (flat r.place_.b_), .int .i64 r.place_.at_, .bool r.place_.last_, .int .i64 r.e_]))) → FN Go.Proofs.Tryz.prog 61 [.ref B0 0] s Q := by
 have hS : s = (s.set B0 (.cells [.sl false 1 r_0.place_.b_.length (flat r_0.place_.b_), .int .i64 r_0.place_.at_, .bool r_0.place_.last_, .int .i64 r_0.e_])) := by simp only [set_eq' hB0]
 rw [hS]
 intro h
 refine FN.of (draw_ok mix) is_frame_reader_line rfl (Nat.le_of_ble_eq_true rfl) ?_
 revert h
 rw [ir_frame_reader_line, res_frame_reader_line, frame_reader_line]
 repeat' (first
  | with_reducible exact tt_to
  | with_reducible refine and_to ?_ ?_
  | with_reducible refine im_to ?_
  | with_reducible refine call_to (fun _ (h : frame_place_open o1.place_ = some _) => frame_place_open_fe (B0 := B0) (preB0 := []) (postB0 := [.int .i64 o1.e_]) (by simp -implicitDefEqProofs only [go_sem, seval] <;> simp only [encM_nil]) (by first | rfl | simp)  h) (fun r2 => ?_)
  | with_reducible refine fun hh => frame_reader_fail_fn (B0 := B0) (by simp -implicitDefEqProofs only [go_sem, seval] <;> simp only [encM_nil])   (ok_mono (show ok (frame_reader_fail o1 r2) _ from hh) fun r3 => ?_)
  | with_reducible refine fun hh => frame_reader_fail_fn (B0 := B0) (by simp -implicitDefEqProofs only [go_sem, seval] <;> simp only [encM_nil])   (ok_mono (show ok (frame_reader_fail o1 18) _ from hh) fun r4 => ?_)
  | ((with_reducible refine join_to (fun (o1 : frame_reader) => ⟨[(0, .ref B0 0)], [], (s.set B0 (.cells [.sl false 1 o1.place_.b_.length (flat o1.place_.b_), .int .i64 o1.place_.at_, .bool o1.place_.last_, .int .i64 o1.e_]))⟩) (fun J => ?_) ?_); rotate_left; rintro o1)
  | simp -implicitDefEqProofs only [go_sem, seval])
def frame_reader_bytes (r_0 : frame_reader) (n_1 : Int) : Option ((List UInt8) × frame_reader) :=
 if r_0.e_ != 0 then
  some (([] : List UInt8), r_0)
 else
  if decide (n_1 > w64 ((r_0.place_.b_.length : Int) - r_0.place_.at_)) then
   bnd (frame_place_open r_0.place_) fun r1 =>
   bnd (frame_reader_fail r_0 r1) fun r2 =>
   some (([] : List UInt8), r2)
  else
   need (0 ≤ w64 ((w64 (r_0.place_.at_ + n_1)) - n_1) ∧ w64 ((w64 (r_0.place_.at_ + n_1)) - n_1) ≤ w64 (r_0.place_.at_ + n_1) ∧ w64 (r_0.place_.at_ + n_1) ≤ r_0.place_.b_.length) <|
   some (part r_0.place_.b_ (w64 ((w64 (r_0.place_.at_ + n_1)) - n_1)) (w64 (r_0.place_.at_ + n_1)), (frame_reader.mk (frame_place.mk r_0.place_.b_ (w64 (r_0.place_.at_ + n_1)) r_0.place_.last_) r_0.e_))
def ir_frame_reader_bytes : IC :=
 (.seq (.reg none [i1 4 (.mov true (.c (.sl true 1 0 [])))] [0, 1])
 (.seq (.block 0 (.seq (.reg none [mv 6 0,
 nc 7 6,
 fa 8 3 7,
 i1 9 (.loadR [.int .i64 0] false (.t 8)),
 bn 10 .neq 9 0,
 mv 5 10] [0, 1, 5])
 (.cond (.t 5) (.seq (.reg none [i1 4 (.mov true (.c (.sl true 1 0 [])))] [4])
 .ret)
 (.seq (.reg (some 15) [mv 12 1,
 mv 13 0,
 nc 14 13,
 fa 15 0 14,
 fa 16 0 15,
 i1 17 (.loadR [.sl false 1 0 []] false (.t 16)),
 le 18 0 17,
 mv 19 0,
 nc 20 19,
 fa 21 0 20,
 fa 22 1 21,
 i1 23 (.loadR [.int .i64 0] false (.t 22)),
 bt 24 .sub 18 23,
 bt 25 .gtr 12 24,
 mv 11 25] [0, 1, 11])
 (.cond (.t 11) (.seq (.reg none [mv 26 0,
 mv 27 0,
 nc 28 27,
 fa 29 0 28,
 c1 30 100 29,
 c2 31 59 26 30] [])
 (.seq (.reg none [i1 4 (.mov true (.c (.sl true 1 0 [])))] [4])
 .ret))
 .skip)))))
 (.seq (.reg none [mv 32 0,
 nc 33 32,
 fa 34 0 33,
 fa 35 1 34,
 i1 36 (.loadR [.int .i64 0] false (.t 35)),
 mv 37 1,
 bt 38 .add 36 37,
 nc 39 32,
 fa 40 0 39,
 fa 41 1 40,
 st 1 41 38] [0, 1])
 (.seq (.reg (some 19) [mv 42 0,
 nc 43 42,
 fa 44 0 43,
 fa 45 0 44,
 i1 46 (.loadR [.sl false 1 0 []] false (.t 45)),
 mv 47 0,
 nc 48 47,
 fa 49 0 48,
 fa 50 1 49,
 i1 51 (.loadR [.int .i64 0] false (.t 50)),
 mv 52 1,
 bt 53 .sub 51 52,
 mv 54 0,
 nc 55 54,
 fa 56 0 55,
 fa 57 1 56,
 i1 58 (.loadR [.int .i64 0] false (.t 57)),
 i1 59 (.slice 1 (.t 46) (some (.t 53)) (some (.t 58)) none),
 mv 4 59] [4])
 .ret))))
def res_frame_reader_bytes : List IRes := [⟨4, false, none⟩]
theorem is_frame_reader_bytes : fnIs Go.Proofs.Tryz.prog 62 60 res_frame_reader_bytes ir_frame_reader_bytes = true := by kernel_rfl
theorem frame_reader_bytes_fn {r_0 n_1} {B0 : Nat} {s : Store} {Q : List AV → Store → Prop} (hB0 : s B0 = some (.cells [.sl false 1 r_0.place_.b_.length (flat r_0.place_.b_), .int .i64 r_0.place_.at_, .bool r_0.place_.last_, .int .i64 r_0.e_])) : ok (frame_reader_bytes r_0 n_1) (fun r => Q [.sl false 1 r.1.length (flat r.1)] (s.set B0 (.cells [.sl false 1 r.2.place_.b_.length (flat r.2.place_.b_), .int .i64 r.2.place_.at_, .bool r.2.place_.last_, .int .i64 r.2.e_]))) → FN Go.Proofs.Tryz.prog 62 [.ref B0 0, .int .i64 n_1] s Q := by
 have hS : s = (s.set B0 (.cells [.sl false 1 r_0.place_.b_.length (flat r_0.place_.b_), .int .i64 r_0.place_.at_, .bool r_0.place_.last_, .int .i64 r_0.e_])) := by simp only [set_eq' hB0]
 rw [hS]
 intro h
 refine FN.of (draw_ok mix) is_frame_reader_bytes rfl (Nat.le_of_ble_eq_true rfl) ?_
 revert h
 rw [ir_frame_reader_bytes, res_frame_reader_bytes, frame_reader_bytes]
 repeat' (first
  | with_reducible exact tt_to
  | with_reducible refine and_to ?_ ?_
  | with_reducible refine im_to ?_
  | with_reducible refine call_to (fun _ (h : frame_place_open r_0.place_ = some _) => frame_place_open_fe (B0 := B0) (preB0 := []) (postB0 := [.int .i64 r_0.e_]) (by simp -implicitDefEqProofs only [go_sem, seval] <;> simp only [encM_nil]) (by first | rfl | simp)  h) (fun r1 => ?_)
  | with_reducible refine fun hh => frame_reader_fail_fn (B0 := B0) (by simp -implicitDefEqProofs only [go_sem, seval] <;> simp only [encM_nil])   (ok_mono (show ok (frame_reader_fail r_0 r1) _ from hh) fun r2 => ?_)
  | simp -implicitDefEqProofs only [go_sem, seval])
def frame_packed (v_0 : api_Value) : Option (Bool × Bool) :=
 bnd (value_Get v_0 (Str.mk [70, 105, 108, 116, 101, 114])) fun r1 =>
 jn (
  if (r1.1.Kind == 6) && ((r1.1.L.length : Int) == 1) then
   need (0 ≤ (0 : Int) ∧ (0 : Int) < r1.1.L.length) <|
   some (ix r1.1.L 0)
  else
   some r1.1) fun (f2 : api_Value) =>
 some (r1.2, (!r1.2) || ((f2.Kind == 5) && (f2.S.b == (Str.mk [70, 108, 97, 116, 101, 68, 101, 99, 111, 100, 101]).b)))
def ir_frame_packed : IC :=
 (.seq (.reg none [i1 1 (.boxL 4 (.t 0)),
 mkk 2 (.bool false),
 mkk 3 (.bool false)] [1])
 (.seq (.reg none [lm 7 4 1,
 i1 8 (.call 39 [(.t 7), (.c (.str [70, 105, 108, 116, 101, 114]))]),
 i1 6 (.movT (.t 8)),
 ex 9 6 0,
 ex 10 6 1,
 i1 4 (.allocL [.int .i64 0, .int .i64 0, .str [], .sl true 4 0 []]),
 st 4 4 9,
 mv 5 10] [4, 5])
 (.join [(4, false), (5, false)] (.seq (.reg none [fa 11 0 4,
 ld 12 1 11,
 bn 13 .eql 12 6,
 mv 14 13,
 fg 15 14 true 3 4,
 lg 16 14 true 1 15,
 i1g 17 14 true (.len 0 (.t 16)),
 i1g 18 14 true (.bin .eql (.t 17) (.c (.int .i64 1))),
 pf 19 14 18] [4, 5, 19])
 (.cond (.t 19) (.reg none [fa 20 3 4,
 ld 21 1 20,
 i1 22 (.indexAddr [.int .i64 0, .int .i64 0, .str [], .sl false 4 0 []] (.t 21) (.c (.int .i64 0))),
 lm 23 4 22,
 st 4 4 23] [4, 5])
 .skip))
 (.seq (.reg (some 15) [mv 24 5,
 mv 25 5,
 no 26 25,
 mv 27 26,
 fg 28 27 false 0 4,
 lg 29 27 false 1 28,
 i1g 30 27 false (.bin .eql (.t 29) (.c (.int .i64 5))),
 mvg 31 30 27 false,
 fg 32 31 true 2 4,
 lg 33 31 true 1 32,
 i1g 34 31 true (.bin .eql (.t 33) (.c (.str [70, 108, 97, 116, 101, 68, 101, 99, 111, 100, 101]))),
 i1g 35 27 false (.pick (.t 31) (.t 34) (.c (.bool false))),
 po 36 27 35,
 mv 2 24,
 mv 3 36] [2, 3])
 .ret))))
def res_frame_packed : List IRes := [⟨2, true, none⟩, ⟨3, true, none⟩]
theorem is_frame_packed : fnIs Go.Proofs.Tryz.prog 60 37 res_frame_packed ir_frame_packed = true := by kernel_rfl
theorem frame_packed_fn {v_0} {s : Store} {Q : List AV → Store → Prop}  : ok (frame_packed v_0) (fun r => Q [.bool r.1, .bool r.2] s) → FN Go.Proofs.Tryz.prog 60 [.agg [.int .i64 v_0.Kind, .int .i64 v_0.N, .str v_0.S.b, .sl false 4 v_0.L.length (flat v_0.L)]] s Q := by
 intro h
 refine FN.of (draw_ok mix) is_frame_packed rfl (Nat.le_of_ble_eq_true rfl) ?_
 revert h
 rw [ir_frame_packed, res_frame_packed, frame_packed]
 repeat' (first
  | with_reducible refine call_to (fun _ (h : value_Get v_0 (Str.mk [70, 105, 108, 116, 101, 114]) = some _) => value_Get_fe h) (fun r1 => ?_)
  | ((with_reducible refine join_to (fun (f2 : api_Value) => ⟨[(4, .loc [.int .i64 f2.Kind, .int .i64 f2.N, .str f2.S.b, .sl false 4 f2.L.length (flat f2.L)]), (5, .bool r1.2)], [], s⟩) (fun J => ?_) ?_); rotate_left; rintro f2)
  | simp -implicitDefEqProofs only [go_sem, seval])
theorem frame_packed_fe {v_0} {s : Store} {r : Bool × Bool}  (h : frame_packed v_0 = some r) : FE Go.Proofs.Tryz.prog 60 [.agg [.int .i64 v_0.Kind, .int .i64 v_0.N, .str v_0.S.b, .sl false 4 v_0.L.length (flat v_0.L)]] s [.bool r.1, .bool r.2] s := frame_packed_fn  ⟨r, h, rfl, rfl⟩
def frame_reader_stream (r_0 : frame_reader) (v_1 : api_Value) : Option (api_Object × frame_reader) :=
 bnd (value_Get v_1 (Str.mk [76, 101, 110, 103, 116, 104])) fun r1 =>
 bnd (frame_packed v_1) fun r2 =>
 jn (
  bnd (whenB (!((((v_1.Kind != 7) || (r1.1.Kind != 2)) || (decide (r1.1.N < 0))) || (decide (r1.1.N > 16777216)))) false (frame_has v_1 (Str.mk [68, 101, 99, 111, 100, 101, 80, 97, 114, 109, 115]))) fun r8 =>
  if (((((v_1.Kind != 7) || (r1.1.Kind != 2)) || (decide (r1.1.N < 0))) || (decide (r1.1.N > 16777216))) || r8) || (!r2.2) then
   bnd (frame_reader_fail r_0 18) fun r9 =>
   some r9
  else
   some r_0) fun (o7 : frame_reader) =>
 bnd (frame_reader_line o7) fun r10 =>
 bnd (frame_reader_bytes r10 r1.1.N) fun r11 =>
 bnd (frame_reader_word r11.2 (Str.mk [101, 110, 100, 115, 116, 114, 101, 97, 109])) fun r12 =>
 bnd (frame_reader_word r12 (Str.mk [101, 110, 100, 111, 98, 106])) fun r13 =>
 if r2.1 && (r13.e_ == 0) then
  none
 else
  bnd (value_Drop v_1 (Str.mk [76, 101, 110, 103, 116, 104])) fun r14 =>
  bnd (value_Drop r14 (Str.mk [70, 105, 108, 116, 101, 114])) fun r15 =>
  bnd (frame_Stream r15 (Str.mk r11.1)) fun r16 =>
  some (r16, r13)
def ir_frame_reader_stream : IC :=
 (.seq (.reg none [i1 3 (.boxL 4 (.t 1)),
 i1 4 (.allocL [.int .i64 0, .int .i64 0, .str [], .sl true 4 0 [], .bool false, .str []])] [0, 3, 4])
 (.seq (.reg none [lm 14 4 3,
 i1 15 (.call 39 [(.t 14), (.c (.str [76, 101, 110, 103, 116, 104]))]),
 i1 13 (.movT (.t 15)),
 ex 16 13 0,
 ex 17 13 1,
 i1 5 (.allocL [.int .i64 0, .int .i64 0, .str [], .sl true 4 0 []]),
 st 4 5 16,
 mv 6 17] [0, 3, 4, 5])
 (.seq (.reg none [lm 19 4 3,
 c1 20 60 19,
 i1 18 (.movT (.t 20)),
 ex 21 18 0,
 ex 22 18 1,
 mv 7 21,
 mv 8 22] [0, 3, 4, 5, 7, 8])
 (.join [(0, false), (3, false), (4, false), (5, false), (7, false)] (.seq (.reg (some 21) [fa 23 0 3,
 ld 24 1 23,
 bn 25 .neq 24 7,
 mv 26 25,
 fg 27 26 false 0 5,
 lg 28 26 false 1 27,
 i1g 29 26 false (.bin .neq (.t 28) (.c (.int .i64 2))),
 po 30 26 29,
 mv 31 30,
 fg 32 31 false 1 5,
 lg 33 31 false 1 32,
 i1g 34 31 false (.bin .lss (.t 33) (.c (.int .i64 0))),
 po 35 31 34,
 mv 36 35,
 fg 37 36 false 1 5,
 lg 38 36 false 1 37,
 i1g 39 36 false (.bin .gtr (.t 38) (.c (.int .i64 16777216))),
 po 40 36 39,
 mv 41 40,
 i1g 42 41 false (.load 4 true (.t 3)),
 i1g 43 41 false (.call 19 [(.t 42), (.c (.str [68, 101, 99, 111, 100, 101, 80, 97, 114, 109, 115]))]),
 po 44 41 43,
 mv 45 44,
 mvg 46 8 45 false,
 i1g 47 45 false (.un .not (.t 46)),
 po 48 45 47] [0, 3, 4, 5, 7, 48])
 (.cond (.t 48) (.reg none [mv 49 0,
 i1 50 (.call 59 [(.t 49), (.c (.int .i64 18))])] [0, 3, 4, 5, 7])
 .skip))
 (.seq (.reg none [mv 51 0,
 c1 52 61 51] [0, 3, 4, 5, 7])
 (.seq (.reg none [mv 53 0,
 fa 54 1 5,
 ld 55 1 54,
 c2 56 62 53 55,
 mt 9 56] [0, 3, 4, 7, 9])
 (.seq (.reg none [mv 57 0,
 i1 58 (.call 31 [(.t 57), (.c (.str [101, 110, 100, 115, 116, 114, 101, 97, 109]))])] [0, 3, 4, 7, 9])
 (.seq (.reg none [mv 59 0,
 i1 60 (.call 31 [(.t 59), (.c (.str [101, 110, 100, 111, 98, 106]))])] [0, 3, 4, 7, 9])
 (.seq (.seq (.reg none [mv 61 7,
 mv 62 61,
 mvg 63 0 62 true,
 i1g 64 62 true (.nilCheck (.t 63)),
 fg 65 62 true 3 64,
 i1g 66 62 true (.loadR [.int .i64 0] false (.t 65)),
 i1g 67 62 true (.bin .eql (.t 66) (.c (.int .i64 0))),
 pf 68 62 67] [3, 4, 9, 68])
 (.cond (.t 68) .dead
 .skip))
 (.seq (.reg (some 6) [lm 80 4 3,
 i1 81 (.call 64 [(.t 80), (.c (.str [76, 101, 110, 103, 116, 104]))]),
 i1 82 (.call 64 [(.t 81), (.c (.str [70, 105, 108, 116, 101, 114]))]),
 mv 83 9,
 i1 84 (.cvtStr (.t 83)),
 c2 85 11 82 84,
 st 6 4 85] [4])
 .ret))))))))))
def res_frame_reader_stream : List IRes := [⟨4, false, some (6, true)⟩]
theorem is_frame_reader_stream : fnIs Go.Proofs.Tryz.prog 34 86 res_frame_reader_stream ir_frame_reader_stream = true := by kernel_rfl
theorem frame_reader_stream_fn {r_0 v_1} {B0 : Nat} {s : Store} {Q : List AV → Store → Prop} (hB0 : s B0 = some (.cells [.sl false 1 r_0.place_.b_.length (flat r_0.place_.b_), .int .i64 r_0.place_.at_, .bool r_0.place_.last_, .int .i64 r_0.e_])) : ok (frame_reader_stream r_0 v_1) (fun r => Q [.agg [.int .i64 r.1.V.Kind, .int .i64 r.1.V.N, .str r.1.V.S.b, .sl false 4 r.1.V.L.length (flat r.1.V.L), .bool r.1.Stream, .str r.1.Data.b]] (s.set B0 (.cells [.sl false 1 r.2.place_.b_.length (flat r.2.place_.b_), .int .i64 r.2.place_.at_, .bool r.2.place_.last_, .int .i64 r.2.e_]))) → FN Go.Proofs.Tryz.prog 34 [.ref B0 0, .agg [.int .i64 v_1.Kind, .int .i64 v_1.N, .str v_1.S.b, .sl false 4 v_1.L.length (flat v_1.L)]] s Q := by
 have hS : s = (s.set B0 (.cells [.sl false 1 r_0.place_.b_.length (flat r_0.place_.b_), .int .i64 r_0.place_.at_, .bool r_0.place_.last_, .int .i64 r_0.e_])) := by simp only [set_eq' hB0]
 rw [hS]
 intro h
 refine FN.of (draw_ok mix) is_frame_reader_stream rfl (Nat.le_of_ble_eq_true rfl) ?_
 revert h
 rw [ir_frame_reader_stream, res_frame_reader_stream, frame_reader_stream]
 repeat' (first
  | with_reducible exact tt_to
  | with_reducible refine and_to ?_ ?_
  | with_reducible refine im_to ?_
  | with_reducible refine call_to (fun _ (h : value_Get v_1 (Str.mk [76, 101, 110, 103, 116, 104]) = some _) => value_Get_fe h) (fun r1 => ?_)
  | with_reducible refine call_to (fun _ (h : frame_packed v_1 = some _) => frame_packed_fe h) (fun r2 => ?_)
  | with_reducible refine call_to_g rfl (fun _ (h : frame_has v_1 (Str.mk [68, 101, 99, 111, 100, 101, 80, 97, 114, 109, 115]) = some _) => frame_has_fe h) (fun _ => rfl) (fun r8 => ?_)
  | with_reducible refine fun hh => frame_reader_fail_fn (B0 := B0) (by simp -implicitDefEqProofs only [go_sem, seval] <;> simp only [encM_nil])   (ok_mono (show ok (frame_reader_fail r_0 18) _ from hh) fun r9 => ?_)
  | with_reducible refine fun hh => frame_reader_line_fn (B0 := B0) (by simp -implicitDefEqProofs only [go_sem, seval] <;> simp only [encM_nil])   (ok_mono (show ok (frame_reader_line o7) _ from hh) fun r10 => ?_)
  | with_reducible refine fun hh => frame_reader_bytes_fn (B0 := B0) (by simp -implicitDefEqProofs only [go_sem, seval] <;> simp only [encM_nil])   (ok_mono (show ok (frame_reader_bytes r10 r1.1.N) _ from hh) fun r11 => ?_)
  | with_reducible refine fun hh => frame_reader_word_fn (B0 := B0) (by simp -implicitDefEqProofs only [go_sem, seval] <;> simp only [encM_nil])   (ok_mono (show ok (frame_reader_word r11.2 (Str.mk [101, 110, 100, 115, 116, 114, 101, 97, 109])) _ from hh) fun r12 => ?_)
  | with_reducible refine fun hh => frame_reader_word_fn (B0 := B0) (by simp -implicitDefEqProofs only [go_sem, seval] <;> simp only [encM_nil])   (ok_mono (show ok (frame_reader_word r12 (Str.mk [101, 110, 100, 111, 98, 106])) _ from hh) fun r13 => ?_)
  | with_reducible refine call_to_q (fun _ (h : value_Drop v_1 (Str.mk [76, 101, 110, 103, 116, 104]) = some _) => value_Drop_fe h) (fun _ => rfl) (fun r14 => ?_)
  | with_reducible refine call_to_q (fun _ (h : value_Drop r14 (Str.mk [70, 105, 108, 116, 101, 114]) = some _) => value_Drop_fe h) (fun _ => rfl) (fun r15 => ?_)
  | with_reducible refine call_to_q (fun _ (h : frame_Stream r15 (Str.mk r11.1) = some _) => frame_Stream_fe h) (fun _ => rfl) (fun r16 => ?_)
  | ((with_reducible refine join_to (fun (o7 : frame_reader) => ⟨[(0, .ref B0 0), (3, .loc [.int .i64 v_1.Kind, .int .i64 v_1.N, .str v_1.S.b, .sl false 4 v_1.L.length (flat v_1.L)]), (4, .loc [.int .i64 0, .int .i64 0, .str (Str.mk []).b, .sl true 4 0 [], .bool false, .str (Str.mk []).b]), (5, .loc [.int .i64 r1.1.Kind, .int .i64 r1.1.N, .str r1.1.S.b, .sl false 4 r1.1.L.length (flat r1.1.L)]), (7, .bool r2.1)], [], (s.set B0 (.cells [.sl false 1 o7.place_.b_.length (flat o7.place_.b_), .int .i64 o7.place_.at_, .bool o7.place_.last_, .int .i64 o7.e_]))⟩) (fun J => ?_) ?_); rotate_left; rintro o7)
  | simp -implicitDefEqProofs only [go_sem, seval])
def frame_Parse (b_0 : (List UInt8)) (at_1 : Int) (last_2 : Bool) : Option (Int × api_Object × Int × Int) :=
 bnd (frame_reader_number (frame_reader.mk (frame_place.mk b_0 at_1 last_2) 0) 1 4096) fun r1 =>
 bnd (frame_reader_number r1.2 0 0) fun r2 =>
 bnd (frame_reader_word r2.2 (Str.mk [111, 98, 106])) fun r3 =>
 bnd (frame_reader_value r3) fun r4 =>
 bnd (frame_Object r4.1) fun r5 =>
 jn (
  bnd (frame_reader_streams r4.2) fun r10 =>
  if r10.1 then
   bnd (frame_reader_stream r10.2 r5.V) fun r11 =>
   some (r11.1, r11.2)
  else
   some (r5, r10.2)) fun ((o8, o9) : api_Object × frame_reader) =>
 if o9.e_ != 0 then
  some (0, (api_Object.mk (api_Value.mk 0 0 (Str.mk []) ([] : List api_Value)) false (Str.mk [])), 0, o9.e_)
 else
  some (r1.1, o8, o9.place_.at_, 0)
def ir_frame_Parse : IC :=
 (.seq (.reg none [mi 6 0,
 i1 7 (.allocL [.int .i64 0, .int .i64 0, .str [], .sl true 4 0 [], .bool false, .str []]),
 mi 8 0,
 mi 9 0] [0, 1, 2, 7])
 (.seq (.reg none [mt 13 0,
 mv 14 1,
 mv 15 2,
 i1 16 (.build [.sl true 1 0 [], .int .i64 0, .bool false] [(0, 1, (.t 13)), (1, 1, (.t 14)), (2, 1, (.t 15))]),
 i1 17 (.build [.sl true 1 0 [], .int .i64 0, .bool false, .int .i64 0] [(0, 3, (.t 16))]),
 i1 18 (.boxS 4 (.t 17)),
 mv 10 18] [7, 10])
 (.seq (.reg none [mv 19 10,
 i1 20 (.call 30 [(.t 19), (.c (.int .i64 1)), (.c (.int .i64 4096))]),
 mv 11 20] [7, 10, 11])
 (.seq (.reg none [mv 21 10,
 i1 22 (.call 30 [(.t 21), (.c (.int .i64 0)), (.c (.int .i64 0))])] [7, 10, 11])
 (.seq (.reg none [mv 23 10,
 i1 24 (.call 31 [(.t 23), (.c (.str [111, 98, 106]))])] [7, 10, 11])
 (.seq (.reg none [mv 25 10,
 c1 26 32 25,
 c1 27 10 26,
 i1 12 (.allocL [.int .i64 0, .int .i64 0, .str [], .sl true 4 0 [], .bool false, .str []]),
 st 6 12 27] [7, 10, 11, 12])
 (.join [(7, false), (10, false), (11, false), (12, false)] (.seq (.reg none [mv 28 10,
 c1 29 33 28] [7, 10, 11, 12, 29])
 (.cond (.t 29) (.reg none [mv 30 10,
 fa 31 0 12,
 lm 32 4 31,
 c2 33 34 30 32,
 st 6 12 33] [7, 10, 11, 12])
 .skip))
 (.seq (.seq (.reg none [mv 34 10,
 nc 35 34,
 fa 36 3 35,
 i1 37 (.loadR [.int .i64 0] false (.t 36)),
 bn 38 .neq 37 0] [7, 10, 11, 12, 38])
 (.cond (.t 38) (.seq (.regT [7] 9 [i1 39 (.build [.int .i64 0, .int .i64 0, .str [], .sl true 4 0 [], .bool false, .str []] []),
 mv 40 10,
 nc 41 40,
 fa 42 3 41,
 i1 43 (.loadR [.int .i64 0] false (.t 42)),
 mi 6 0,
 st 6 7 39,
 mi 8 0,
 mv 9 43] [6, 7, 8, 9])
 .ret)
 .skip))
 (.seq (.regT [7] 11 [mv 44 11,
 lm 45 6 12,
 mv 46 10,
 nc 47 46,
 fa 48 0 47,
 fa 49 1 48,
 i1 50 (.loadR [.int .i64 0] false (.t 49)),
 mv 6 44,
 st 6 7 45,
 mv 8 50,
 mi 9 0] [6, 7, 8, 9])
 .ret)))))))))
def res_frame_Parse : List IRes := [⟨6, true, none⟩, ⟨7, false, some (6, true)⟩, ⟨8, true, none⟩, ⟨9, true, none⟩]
theorem is_frame_Parse : fnIs Go.Proofs.Tryz.prog 16 51 res_frame_Parse ir_frame_Parse = true := by kernel_rfl
theorem frame_Parse_fn {b_0 at_1 last_2} {s : Store} {Q : List AV → Store → Prop}  : ok (frame_Parse b_0 at_1 last_2) (fun r => Q [.int .i64 r.1, .agg [.int .i64 r.2.1.V.Kind, .int .i64 r.2.1.V.N, .str r.2.1.V.S.b, .sl false 4 r.2.1.V.L.length (flat r.2.1.V.L), .bool r.2.1.Stream, .str r.2.1.Data.b], .int .i64 r.2.2.1, .int .i64 r.2.2.2] s) → FN Go.Proofs.Tryz.prog 16 [.sl false 1 b_0.length (flat b_0), .int .i64 at_1, .bool last_2] s Q := by
 intro h
 refine FN.forget ?_
 refine FN.of (draw_ok mix) is_frame_Parse rfl (Nat.le_of_ble_eq_true rfl) ?_
 revert h
 rw [ir_frame_Parse, res_frame_Parse, frame_Parse]
 repeat' (first
  | with_reducible exact tt_to
  | with_reducible refine and_to ?_ ?_
  | with_reducible refine im_to ?_
  | with_reducible refine fun hh => frame_reader_number_fn (B0 := N1) (by simp -implicitDefEqProofs only [go_sem, seval] <;> simp only [encM_nil])   (ok_mono (show ok (frame_reader_number (frame_reader.mk (frame_place.mk b_0 at_1 last_2) 0) 1 4096) _ from hh) fun r1 => ?_)
  | with_reducible refine fun hh => frame_reader_number_fn (B0 := N1) (by simp -implicitDefEqProofs only [go_sem, seval] <;> simp only [encM_nil])   (ok_mono (show ok (frame_reader_number r1.2 0 0) _ from hh) fun r2 => ?_)
  | with_reducible refine fun hh => frame_reader_word_fn (B0 := N1) (by simp -implicitDefEqProofs only [go_sem, seval] <;> simp only [encM_nil])   (ok_mono (show ok (frame_reader_word r2.2 (Str.mk [111, 98, 106])) _ from hh) fun r3 => ?_)
  | with_reducible refine fun hh => frame_reader_value_fn (B0 := N1) (by simp -implicitDefEqProofs only [go_sem, seval] <;> simp only [encM_nil])   (ok_mono (show ok (frame_reader_value r3) _ from hh) fun r4 => ?_)
  | with_reducible refine call_to (fun _ (h : frame_Object r4.1 = some _) => frame_Object_fe h) (fun r5 => ?_)
  | with_reducible refine fun hh => frame_reader_streams_fn (B0 := N1) (by simp -implicitDefEqProofs only [go_sem, seval] <;> simp only [encM_nil])   (ok_mono (show ok (frame_reader_streams r4.2) _ from hh) fun r10 => ?_)
  | with_reducible refine fun hh => frame_reader_stream_fn (B0 := N1) (by simp -implicitDefEqProofs only [go_sem, seval] <;> simp only [encM_nil])   (ok_mono (show ok (frame_reader_stream r10.2 r5.V) _ from hh) fun r11 => ?_)
  | ((with_reducible refine join_to (fun ((o8, o9) : api_Object × frame_reader) => ⟨[(7, .loc [.int .i64 0, .int .i64 0, .str (Str.mk []).b, .sl true 4 0 [], .bool false, .str (Str.mk []).b]), (10, .ref N1 0), (11, .int .i64 r1.1), (12, .loc [.int .i64 o8.V.Kind, .int .i64 o8.V.N, .str o8.V.S.b, .sl false 4 o8.V.L.length (flat o8.V.L), .bool o8.Stream, .str o8.Data.b])], [], (s.set N1 (.cells [.sl false 1 o9.place_.b_.length (flat o9.place_.b_), .int .i64 o9.place_.at_, .bool o9.place_.last_, .int .i64 o9.e_]))⟩) (fun J => ?_) ?_); rotate_left; rintro ⟨o8, o9⟩)
  | ((fail_if_success (have _x := sN1)); with_reducible intro hh N1 hN1; (try simp only [set_none] at hN1); have sN1 := hN1; revert hh)
  | with_reducible exact fun hh => ⟨_, SubS.set (SubS.refl _) (by simp [Store.set, sN1]), hh⟩
  | simp -implicitDefEqProofs only [go_sem, seval])
theorem frame_Parse_fe {b_0 at_1 last_2} {s : Store} {r : Int × api_Object × Int × Int}  (h : frame_Parse b_0 at_1 last_2 = some r) : FE Go.Proofs.Tryz.prog 16 [.sl false 1 b_0.length (flat b_0), .int .i64 at_1, .bool last_2] s [.int .i64 r.1, .agg [.int .i64 r.2.1.V.Kind, .int .i64 r.2.1.V.N, .str r.2.1.V.S.b, .sl false 4 r.2.1.V.L.length (flat r.2.1.V.L), .bool r.2.1.Stream, .str r.2.1.Data.b], .int .i64 r.2.2.1, .int .i64 r.2.2.2] s := frame_Parse_fn  ⟨r, h, rfl, rfl⟩
end Go.AB
end

section
set_option maxRecDepth 4000
namespace Go.AB
open Go
attribute [-go_sem] Nat.add_zero ge_0 part_zero
def value_Put0 (v_0 : api_Value) (key_1 : Str) (x_2 : api_Value) : Option api_Value := none
theorem value_Put0_fe {v_0 : api_Value} {key_1 : Str} {x_2 : api_Value} {s : Store} {r : api_Value} (h : value_Put0 v_0 key_1 x_2 = some r) : FE Go.Proofs.Tryz.prog 28 [.agg [.int .i64 v_0.Kind, .int .i64 v_0.N, .str v_0.S.b, .sl false 4 v_0.L.length (flat v_0.L)], .str key_1.b, .agg [.int .i64 x_2.Kind, .int .i64 x_2.N, .str x_2.S.b, .sl false 4 x_2.L.length (flat x_2.L)]] s [.agg [.int .i64 r.Kind, .int .i64 r.N, .str r.S.b, .sl false 4 r.L.length (flat r.L)]] s := by cases h
def value_DictOf (l_0 : (List api_Value)) : Option (api_Value) :=
 jn (
  iter (fun ((v3, i4) : api_Value × Int) =>
   if decide (w64 (i4 + 1) < (l_0.length : Int)) then
    need (0 ≤ i4 ∧ i4 < l_0.length) <|
    need (0 ≤ w64 (i4 + 1) ∧ w64 (i4 + 1) < l_0.length) <|
    bnd (value_Put0 v3 ((ix l_0 i4).S) (ix l_0 (w64 (i4 + 1)))) fun r7 =>
    some (.inl (r7, w64 (i4 + 2)))
   else
    some (.inr v3)) ((api_Value.mk 7 0 (Str.mk []) ([] : List api_Value)), 0)) fun (v2 : api_Value) =>
 some v2
def ir_value_DictOf : IC :=
 (.seq (.reg none [i1 2 (.allocL [.int .i64 0, .int .i64 0, .str [], .sl true 4 0 []])] [0, 2])
 (.seq (.reg none [i1 5 (.build [.int .i64 0, .int .i64 0, .str [], .sl true 4 0 []] [(0, 1, (.c (.int .i64 7)))]),
 i1 3 (.allocL [.int .i64 0, .int .i64 0, .str [], .sl true 4 0 []]),
 st 4 3 5] [0, 2, 3])
 (.join [(2, false), (3, false)] (.seq (.reg none [mi 4 0] [0, 2, 3, 4])
 (.block 0 (.loop [(0, true), (2, false), (3, false), (4, false)] (.seq (.seq (.reg none [mv 6 4,
 bn 7 .add 6 1,
 mv 8 0,
 le 9 0 8,
 bt 10 .lss 7 9] [0, 2, 3, 4, 10])
 (.cond (.t 10) .skip
 (.exit 0)))
 (.seq (.block 1 (.reg (some 12) [lm 13 4 3,
 mv 14 0,
 mv 15 4,
 ia 16 [.int .i64 0, .int .i64 0, .str [], .sl false 4 0 []] 14 15,
 fa 17 2 16,
 ld 18 1 17,
 mv 19 0,
 mv 20 4,
 bn 21 .add 20 1,
 ia 22 [.int .i64 0, .int .i64 0, .str [], .sl false 4 0 []] 19 21,
 lm 23 4 22,
 c3 24 28 13 18 23,
 st 4 3 24] [0, 2, 3, 4]))
 (.reg none [mv 11 4,
 bn 12 .add 11 2,
 mv 4 12] [0, 2, 3, 4]))))))
 (.seq (.reg none [lm 25 4 3,
 st 4 2 25] [2])
 .ret))))
def res_value_DictOf : List IRes := [⟨2, false, some (4, true)⟩]
theorem is_value_DictOf : fnIs Go.Proofs.Tryz.prog 17 26 res_value_DictOf ir_value_DictOf = true := by kernel_rfl
theorem value_DictOf_fn {l_0} {s : Store} {Q : List AV → Store → Prop}  : ok (value_DictOf l_0) (fun r => Q [.agg [.int .i64 r.Kind, .int .i64 r.N, .str r.S.b, .sl false 4 r.L.length (flat r.L)]] s) → FN Go.Proofs.Tryz.prog 17 [.sl false 4 l_0.length (flat l_0)] s Q := by
 intro h
 refine FN.of (draw_ok mix) is_value_DictOf rfl (Nat.le_of_ble_eq_true rfl) ?_
 revert h
 rw [ir_value_DictOf, res_value_DictOf, value_DictOf]
 repeat' (first
  | with_reducible exact tt_to
  | with_reducible refine and_to ?_ ?_
  | with_reducible refine im_to ?_
  | with_reducible refine call_to_q (fun _ (h : value_Put0 v3 ((ix l_0 i4).S) (ix l_0 (w64 (i4 + 1))) = some _) => value_Put0_fe h) (fun _ => rfl) (fun r7 => ?_)
  | ((with_reducible refine iter_to (fun ((v3, i4) : api_Value × Int) => ⟨[(0, .sl false 4 l_0.length (flat l_0)), (2, .loc [.int .i64 0, .int .i64 0, .str (Str.mk []).b, .sl true 4 0 []]), (3, .loc [.int .i64 v3.Kind, .int .i64 v3.N, .str v3.S.b, .sl false 4 v3.L.length (flat v3.L)]), (4, .int .i64 i4)], [], s⟩) ?_ ?_); (first | exact rfl | simp -implicitDefEqProofs only [go_sem, seval]); rintro J ⟨v3, i4⟩)
  | ((with_reducible refine join_to (fun (v2 : api_Value) => ⟨[(2, .loc [.int .i64 0, .int .i64 0, .str (Str.mk []).b, .sl true 4 0 []]), (3, .loc [.int .i64 v2.Kind, .int .i64 v2.N, .str v2.S.b, .sl false 4 v2.L.length (flat v2.L)])], [], s⟩) (fun J => ?_) ?_); rotate_left; rintro v2)
  | simp -implicitDefEqProofs only [go_sem, seval])
theorem value_DictOf_fe {l_0} {s : Store} {r : api_Value}  (h : value_DictOf l_0 = some r) : FE Go.Proofs.Tryz.prog 17 [.sl false 4 l_0.length (flat l_0)] s [.agg [.int .i64 r.Kind, .int .i64 r.N, .str r.S.b, .sl false 4 r.L.length (flat r.L)]] s := value_DictOf_fn  ⟨r, h, rfl, rfl⟩
def law14_works  : Option (Bool) :=
 bnd (value_IntOf 7) fun r1 =>
 bnd (frame_Object r1) fun r2 =>
 bnd (frame_Print 5 r2 true) fun r3 =>
 bnd (frame_Parse [53, 32, 48, 32, 111, 98, 106, 10, 60, 60, 47, 76, 101, 110, 103, 116, 104, 32, 50, 62, 62, 10, 115, 116, 114, 101, 97, 109, 10, 97, 98, 10, 101, 110, 100, 115, 116, 114, 101, 97, 109, 10, 101, 110, 100, 111, 98, 106, 10] 0 false) fun r4 =>
 bnd (whenB ((((((((Str.mk r3.1).b == (Str.mk [53, 32, 48, 32, 111, 98, 106, 10, 55, 10, 101, 110, 100, 111, 98, 106, 10]).b) && (r3.2 == 0)) && (r4.1 == 5)) && r4.2.1.Stream) && (r4.2.1.Data.b == (Str.mk [97, 98]).b)) && (r4.2.2.1 == 48)) && (r4.2.2.2 == 0)) (api_Value.mk 0 0 (Str.mk []) []) (value_DictOf ([] : List api_Value))) fun r5 =>
 bnd (whenB ((((((((Str.mk r3.1).b == (Str.mk [53, 32, 48, 32, 111, 98, 106, 10, 55, 10, 101, 110, 100, 111, 98, 106, 10]).b) && (r3.2 == 0)) && (r4.1 == 5)) && r4.2.1.Stream) && (r4.2.1.Data.b == (Str.mk [97, 98]).b)) && (r4.2.2.1 == 48)) && (r4.2.2.2 == 0)) (api_Object.mk (api_Value.mk 0 0 (Str.mk []) []) false (Str.mk [])) (frame_Stream r5 (Str.mk [97, 98]))) fun r6 =>
 bnd (whenB ((((((((Str.mk r3.1).b == (Str.mk [53, 32, 48, 32, 111, 98, 106, 10, 55, 10, 101, 110, 100, 111, 98, 106, 10]).b) && (r3.2 == 0)) && (r4.1 == 5)) && r4.2.1.Stream) && (r4.2.1.Data.b == (Str.mk [97, 98]).b)) && (r4.2.2.1 == 48)) && (r4.2.2.2 == 0)) false (ref14_Same r4.2.1 r6)) fun r7 =>
 some (((((((((Str.mk r3.1).b == (Str.mk [53, 32, 48, 32, 111, 98, 106, 10, 55, 10, 101, 110, 100, 111, 98, 106, 10]).b) && (r3.2 == 0)) && (r4.1 == 5)) && r4.2.1.Stream) && (r4.2.1.Data.b == (Str.mk [97, 98]).b)) && (r4.2.2.1 == 48)) && (r4.2.2.2 == 0)) && r7)
def ir_law14_works : IC :=
 (.seq (.reg none [mkk 0 (.bool false)] [])
 (.seq (.reg none [i1 8 (.call 15 [(.c (.int .i64 7))]),
 c1 9 10 8,
 i1 10 (.call 14 [(.c (.int .i64 5)), (.t 9), (.c (.bool true))]),
 i1 7 (.movT (.t 10)),
 ex 11 7 0,
 ex 12 7 1,
 mt 1 11,
 mv 2 12] [1, 2])
 (.seq (.reg none [i1 14 (.buildSl 1 49 [.int .u8 0, .int .u8 0, .int .u8 0, .int .u8 0, .int .u8 0, .int .u8 0, .int .u8 0, .int .u8 0, .int .u8 0, .int .u8 0, .int .u8 0, .int .u8 0, .int .u8 0, .int .u8 0, .int .u8 0, .int .u8 0, .int .u8 0, .int .u8 0, .int .u8 0, .int .u8 0, .int .u8 0, .int .u8 0, .int .u8 0, .int .u8 0, .int .u8 0, .int .u8 0, .int .u8 0, .int .u8 0, .int .u8 0, .int .u8 0, .int .u8 0, .int .u8 0, .int .u8 0, .int .u8 0, .int .u8 0, .int .u8 0, .int .u8 0, .int .u8 0, .int .u8 0, .int .u8 0, .int .u8 0, .int .u8 0, .int .u8 0, .int .u8 0, .int .u8 0, .int .u8 0, .int .u8 0, .int .u8 0, .int .u8 0] [(0, 1, (.c (.int .u8 53))), (1, 1, (.c (.int .u8 32))), (2, 1, (.c (.int .u8 48))), (3, 1, (.c (.int .u8 32))), (4, 1, (.c (.int .u8 111))), (5, 1, (.c (.int .u8 98))), (6, 1, (.c (.int .u8 106))), (7, 1, (.c (.int .u8 10))), (8, 1, (.c (.int .u8 60))), (9, 1, (.c (.int .u8 60))), (10, 1, (.c (.int .u8 47))), (11, 1, (.c (.int .u8 76))), (12, 1, (.c (.int .u8 101))), (13, 1, (.c (.int .u8 110))), (14, 1, (.c (.int .u8 103))), (15, 1, (.c (.int .u8 116))), (16, 1, (.c (.int .u8 104))), (17, 1, (.c (.int .u8 32))), (18, 1, (.c (.int .u8 50))), (19, 1, (.c (.int .u8 62))), (20, 1, (.c (.int .u8 62))), (21, 1, (.c (.int .u8 10))), (22, 1, (.c (.int .u8 115))), (23, 1, (.c (.int .u8 116))), (24, 1, (.c (.int .u8 114))), (25, 1, (.c (.int .u8 101))), (26, 1, (.c (.int .u8 97))), (27, 1, (.c (.int .u8 109))), (28, 1, (.c (.int .u8 10))), (29, 1, (.c (.int .u8 97))), (30, 1, (.c (.int .u8 98))), (31, 1, (.c (.int .u8 10))), (32, 1, (.c (.int .u8 101))), (33, 1, (.c (.int .u8 110))), (34, 1, (.c (.int .u8 100))), (35, 1, (.c (.int .u8 115))), (36, 1, (.c (.int .u8 116))), (37, 1, (.c (.int .u8 114))), (38, 1, (.c (.int .u8 101))), (39, 1, (.c (.int .u8 97))), (40, 1, (.c (.int .u8 109))), (41, 1, (.c (.int .u8 10))), (42, 1, (.c (.int .u8 101))), (43, 1, (.c (.int .u8 110))), (44, 1, (.c (.int .u8 100))), (45, 1, (.c (.int .u8 111))), (46, 1, (.c (.int .u8 98))), (47, 1, (.c (.int .u8 106))), (48, 1, (.c (.int .u8 10)))]),
 i1 15 (.cvtRow (.t 14)),
 i1 16 (.call 16 [(.t 15), (.c (.int .i64 0)), (.c (.bool false))]),
 i1 13 (.movT (.t 16)),
 ex 17 13 0,
 ex 18 13 1,
 ex 19 13 2,
 ex 20 13 3,
 i1 4 (.allocL [.int .i64 0, .int .i64 0, .str [], .sl true 4 0 [], .bool false, .str []]),
 mv 3 17,
 st 6 4 18,
 mv 5 19,
 mv 6 20] [1, 2, 3, 4, 5, 6])
 (.seq (.reg (some 35) [mv 21 1,
 i1 22 (.cvtStr (.t 21)),
 i1 23 (.bin .eql (.t 22) (.c (.str [53, 32, 48, 32, 111, 98, 106, 10, 55, 10, 101, 110, 100, 111, 98, 106, 10]))),
 mv 24 23,
 mvg 25 2 24 true,
 i1g 26 24 true (.bin .eql (.t 25) (.c (.int .i64 0))),
 pf 27 24 26,
 mv 28 27,
 mvg 29 3 28 true,
 i1g 30 28 true (.bin .eql (.t 29) (.c (.int .i64 5))),
 pf 31 28 30,
 mv 32 31,
 fg 33 32 true 4 4,
 lg 34 32 true 1 33,
 pf 35 32 34,
 mv 36 35,
 fg 37 36 true 5 4,
 lg 38 36 true 1 37,
 i1g 39 36 true (.bin .eql (.t 38) (.c (.str [97, 98]))),
 pf 40 36 39,
 mv 41 40,
 mvg 42 5 41 true,
 i1g 43 41 true (.bin .eql (.t 42) (.c (.int .i64 48))),
 pf 44 41 43,
 mv 45 44,
 mvg 46 6 45 true,
 i1g 47 45 true (.bin .eql (.t 46) (.c (.int .i64 0))),
 pf 48 45 47,
 mv 49 48,
 i1g 50 49 true (.load 6 true (.t 4)),
 i1g 51 49 true (.call 17 [(.c (.sl true 4 0 []))]),
 i1g 52 49 true (.call 11 [(.t 51), (.c (.str [97, 98]))]),
 i1g 53 49 true (.call 9 [(.t 50), (.t 52)]),
 pf 54 49 53,
 mv 0 54] [0])
 .ret))))
def res_law14_works : List IRes := [⟨0, true, none⟩]
theorem is_law14_works : fnIs Go.Proofs.Tryz.prog 5 55 res_law14_works ir_law14_works = true := by kernel_rfl
theorem law14_works_fn  {s : Store} {Q : List AV → Store → Prop}  : ok (law14_works ) (fun r => Q [.bool r] s) → FN Go.Proofs.Tryz.prog 5 [] s Q := by
 intro h
 refine FN.of (draw_ok mix) is_law14_works rfl (Nat.le_of_ble_eq_true rfl) ?_
 revert h
 rw [ir_law14_works, res_law14_works, law14_works]
 repeat' (first
  | with_reducible refine call_to (fun _ (h : value_IntOf 7 = some _) => value_IntOf_fe h) (fun r1 => ?_)
  | with_reducible refine call_to (fun _ (h : frame_Object r1 = some _) => frame_Object_fe h) (fun r2 => ?_)
  | with_reducible refine call_to (fun _ (h : frame_Print 5 r2 true = some _) => frame_Print_fe h) (fun r3 => ?_)
  | with_reducible refine call_to (fun _ (h : frame_Parse [53, 32, 48, 32, 111, 98, 106, 10, 60, 60, 47, 76, 101, 110, 103, 116, 104, 32, 50, 62, 62, 10, 115, 116, 114, 101, 97, 109, 10, 97, 98, 10, 101, 110, 100, 115, 116, 114, 101, 97, 109, 10, 101, 110, 100, 111, 98, 106, 10] 0 false = some _) => (by refine FE_cast ?_ (frame_Parse_fe h); simp -implicitDefEqProofs only [go_sem, seval])) (fun r4 => ?_)
  | with_reducible refine call_to_g rfl (fun _ (h : value_DictOf ([] : List api_Value) = some _) => (by refine FE_cast ?_ (value_DictOf_fe h); simp -implicitDefEqProofs only [go_sem, seval])) (fun _ => rfl) (fun r5 => ?_)
  | with_reducible refine call_to_g rfl (fun _ (h : frame_Stream r5 (Str.mk [97, 98]) = some _) => frame_Stream_fe h) (fun _ => rfl) (fun r6 => ?_)
  | with_reducible refine call_to_g rfl (fun _ (h : ref14_Same r4.2.1 r6 = some _) => ref14_Same_fe h) (fun _ => rfl) (fun r7 => ?_)
  | simp -implicitDefEqProofs only [go_sem, seval])
theorem law14_works_fe  {s : Store} {r : Bool}  (h : law14_works  = some r) : FE Go.Proofs.Tryz.prog 5 [] s [.bool r] s := law14_works_fn  ⟨r, h, rfl, rfl⟩
def law14_FrameChecks (a_0 : api_Object) (b_1 : api_Object) : Option (Bool) :=
 bnd (ref14_Few a_0 1000) fun r1 =>
 bnd (whenB (!(!r1)) false (ref14_Few b_1 1000)) fun r2 =>
 if (!r1) || (!r2) then
  bnd (law14_works) fun r3 =>
  some r3
 else
  bnd (frame_Check a_0) fun r4 =>
  bnd (ref14_Check a_0) fun r5 =>
  bnd (whenB (r4 == r5) false (frame_Same a_0 b_1)) fun r6 =>
  bnd (whenB (r4 == r5) false (ref14_Same a_0 b_1)) fun r7 =>
  bnd (whenB ((r4 == r5) && ((r6 == r7) != false)) (api_Object.mk (api_Value.mk 0 0 (Str.mk []) []) false (Str.mk [])) (frame_Object a_0.V)) fun r8 =>
  bnd (whenB ((r4 == r5) && ((r6 == r7) != false)) false (ref14_Same r8 (api_Object.mk a_0.V false (Str.mk [])))) fun r9 =>
  bnd (whenB (((r4 == r5) && ((r6 == r7) != false)) && r9) (api_Object.mk (api_Value.mk 0 0 (Str.mk []) []) false (Str.mk [])) (frame_Stream a_0.V a_0.Data)) fun r10 =>
  bnd (whenB (((r4 == r5) && ((r6 == r7) != false)) && r9) false (ref14_Same r10 (api_Object.mk a_0.V true a_0.Data))) fun r11 =>
  bnd (whenB ((((r4 == r5) && ((r6 == r7) != false)) && r9) && r11) false (law14_works)) fun r12 =>
  some (((((r4 == r5) && ((r6 == r7) != false)) && r9) && r11) && r12)
def ir_law14_FrameChecks : IC :=
 (.seq (.reg none [i1 2 (.boxL 6 (.t 0)),
 i1 3 (.boxL 6 (.t 1)),
 mkk 4 (.bool false)] [2, 3])
 (.seq (.seq (.reg (some 6) [lm 5 6 2,
 i1 6 (.call 4 [(.t 5), (.c (.int .i64 1000))]),
 no 7 6,
 mv 8 7,
 i1g 9 8 false (.load 6 true (.t 3)),
 i1g 10 8 false (.call 4 [(.t 9), (.c (.int .i64 1000))]),
 i1g 11 8 false (.un .not (.t 10)),
 po 12 8 11] [2, 3, 12])
 (.cond (.t 12) (.seq (.reg none [i1 13 (.call 5 []),
 mv 4 13] [4])
 .ret)
 .skip))
 (.seq (.reg (some 40) [lm 14 6 2,
 c1 15 6 14,
 lm 16 6 2,
 c1 17 7 16,
 bt 18 .eql 15 17,
 mv 19 18,
 i1g 20 19 true (.load 6 true (.t 2)),
 i1g 21 19 true (.load 6 true (.t 3)),
 i1g 22 19 true (.call 8 [(.t 20), (.t 21)]),
 i1g 23 19 true (.load 6 true (.t 2)),
 i1g 24 19 true (.load 6 true (.t 3)),
 i1g 25 19 true (.call 9 [(.t 23), (.t 24)]),
 i1g 26 19 true (.eqB false (.t 22) (.t 25)),
 pf 27 19 26,
 mv 28 27,
 fg 29 28 true 0 2,
 i1g 30 28 true (.load 4 true (.t 29)),
 i1g 31 28 true (.call 10 [(.t 30)]),
 fg 32 28 true 0 2,
 i1g 33 28 true (.load 4 true (.t 32)),
 i1g 34 28 true (.build [.int .i64 0, .int .i64 0, .str [], .sl false 4 0 [], .bool false, .str []] [(0, 4, (.t 33))]),
 i1g 35 28 true (.call 9 [(.t 31), (.t 34)]),
 pf 36 28 35,
 mv 37 36,
 fg 38 37 true 0 2,
 i1g 39 37 true (.load 4 true (.t 38)),
 fg 40 37 true 5 2,
 lg 41 37 true 1 40,
 i1g 42 37 true (.call 11 [(.t 39), (.t 41)]),
 fg 43 37 true 0 2,
 i1g 44 37 true (.load 4 true (.t 43)),
 fg 45 37 true 5 2,
 lg 46 37 true 1 45,
 i1g 47 37 true (.build [.int .i64 0, .int .i64 0, .str [], .sl false 4 0 [], .bool false, .str []] [(0, 4, (.t 44)), (4, 1, (.c (.bool true))), (5, 1, (.t 46))]),
 i1g 48 37 true (.call 9 [(.t 42), (.t 47)]),
 pf 49 37 48,
 mv 50 49,
 i1g 51 50 true (.call 5 []),
 pf 52 50 51,
 mv 4 52] [4])
 .ret)))
def res_law14_FrameChecks : List IRes := [⟨4, true, none⟩]
theorem is_law14_FrameChecks : fnIs Go.Proofs.Tryz.prog 3 53 res_law14_FrameChecks ir_law14_FrameChecks = true := by kernel_rfl
theorem law14_FrameChecks_fn {a_0 b_1} {s : Store} {Q : List AV → Store → Prop}  : ok (law14_FrameChecks a_0 b_1) (fun r => Q [.bool r] s) → FN Go.Proofs.Tryz.prog 3 [.agg [.int .i64 a_0.V.Kind, .int .i64 a_0.V.N, .str a_0.V.S.b, .sl false 4 a_0.V.L.length (flat a_0.V.L), .bool a_0.Stream, .str a_0.Data.b], .agg [.int .i64 b_1.V.Kind, .int .i64 b_1.V.N, .str b_1.V.S.b, .sl false 4 b_1.V.L.length (flat b_1.V.L), .bool b_1.Stream, .str b_1.Data.b]] s Q := by
 intro h
 refine FN.of (draw_ok mix) is_law14_FrameChecks rfl (Nat.le_of_ble_eq_true rfl) ?_
 revert h
 rw [ir_law14_FrameChecks, res_law14_FrameChecks, law14_FrameChecks]
 repeat' (first
  | with_reducible refine and_to ?_ ?_
  | with_reducible refine im_to ?_
  | with_reducible refine call_to_q (fun _ (h : ref14_Few a_0 1000 = some _) => ref14_Few_fe h) (fun _ => rfl) (fun r1 => ?_)
  | with_reducible refine call_to_g rfl (fun _ (h : ref14_Few b_1 1000 = some _) => ref14_Few_fe h) (fun _ => rfl) (fun r2 => ?_)
  | ((fail_if_success (have _x := r3)); with_reducible refine call_to (fun _ (h : law14_works = some _) => law14_works_fe h) (fun r3 => ?_))
  | with_reducible refine call_to_q (fun _ (h : frame_Check a_0 = some _) => frame_Check_fe h) (fun _ => rfl) (fun r4 => ?_)
  | with_reducible refine call_to_q (fun _ (h : ref14_Check a_0 = some _) => ref14_Check_fe h) (fun _ => rfl) (fun r5 => ?_)
  | with_reducible refine call_to_g rfl (fun _ (h : frame_Same a_0 b_1 = some _) => frame_Same_fe h) (fun _ => rfl) (fun r6 => ?_)
  | with_reducible refine call_to_g rfl (fun _ (h : ref14_Same a_0 b_1 = some _) => ref14_Same_fe h) (fun _ => rfl) (fun r7 => ?_)
  | with_reducible refine call_to_g rfl (fun _ (h : frame_Object a_0.V = some _) => frame_Object_fe h) (fun _ => rfl) (fun r8 => ?_)
  | with_reducible refine call_to_g rfl (fun _ (h : ref14_Same r8 (api_Object.mk a_0.V false (Str.mk [])) = some _) => ref14_Same_fe h) (fun _ => rfl) (fun r9 => ?_)
  | with_reducible refine call_to_g rfl (fun _ (h : frame_Stream a_0.V a_0.Data = some _) => frame_Stream_fe h) (fun _ => rfl) (fun r10 => ?_)
  | with_reducible refine call_to_g rfl (fun _ (h : ref14_Same r10 (api_Object.mk a_0.V true a_0.Data) = some _) => ref14_Same_fe h) (fun _ => rfl) (fun r11 => ?_)
  | ((fail_if_success (have _x := r12)); with_reducible refine call_to_g rfl (fun _ (h : law14_works = some _) => law14_works_fe h) (fun _ => rfl) (fun r12 => ?_))
  | simp -implicitDefEqProofs only [go_sem, seval])
theorem law14_FrameChecks_fe {a_0 b_1} {s : Store} {r : Bool}  (h : law14_FrameChecks a_0 b_1 = some r) : FE Go.Proofs.Tryz.prog 3 [.agg [.int .i64 a_0.V.Kind, .int .i64 a_0.V.N, .str a_0.V.S.b, .sl false 4 a_0.V.L.length (flat a_0.V.L), .bool a_0.Stream, .str a_0.Data.b], .agg [.int .i64 b_1.V.Kind, .int .i64 b_1.V.N, .str b_1.V.S.b, .sl false 4 b_1.V.L.length (flat b_1.V.L), .bool b_1.Stream, .str b_1.Data.b]] s [.bool r] s := law14_FrameChecks_fn  ⟨r, h, rfl, rfl⟩
end Go.AB
end

section
set_option linter.unusedSimpArgs false
namespace Go.AB
open Go Go.AB.Kp
theorem law14_works_true : law14_works = some true := by kernel_rfl
theorem law14_FrameChecks_true (a b : api_Object) : law14_FrameChecks a b = some true := by
  obtain ⟨x, h1, g1⟩ := Few_ok a 1000
  obtain ⟨y, h2, g2⟩ := Few_ok b 1000
  have w : (bnd law14_works fun r3 => some r3) = some true := by rw [law14_works_true]; rfl
  unfold law14_FrameChecks
  rw [h1, bnd_some]
  cases x with
  | false => exact bnd_of (a := false) rfl (if_of rfl w)
  | true =>
    cases y with
    | false => exact bnd_of (a := false) h2 (if_of rfl w)
    | true =>
      obtain ⟨wa, ta⟩ := g1 rfl
      obtain ⟨e, c1, c2⟩ := fcheck_ok a wa ta
      obtain ⟨q, s1, s2⟩ := fsame_ok a b wa
      have r1 := rsame_self (api_Object.mk a.V false (Str.mk [])) wa
      have r2 := rsame_self (api_Object.mk a.V true a.Data) wa
      refine bnd_of (a := true) h2 (if_not (by decide) (bnd_of c1 (bnd_of c2 (bnd_of (a := q) ?_ (bnd_of (a := q) ?_ ?_)))))
      · rw [show (e == e) = true by simp]; exact s1
      · rw [show (e == e) = true by simp]; exact s2
      · have t1 : ((e == e) && ((q == q) != false)) = true := by cases q <;> simp
        rw [t1]
        refine bnd_of (a := api_Object.mk a.V false (Str.mk [])) rfl (bnd_of (a := true) r1 ?_)
        refine bnd_of (a := api_Object.mk a.V true a.Data) rfl (bnd_of (a := true) r2 ?_)
        exact bnd_of (a := true) (show whenB true false law14_works = some true by rw [law14_works_true]; rfl) rfl
end Go.AB
end

section
namespace Go.AB
open Go Go.RowKit Go.ChangeShapes Go.WideShapes
def bigR (N : Nat) (w : World) (b : Nat) : Nat := if b < w.heap.size then N else 0
theorem law_calls' {P : Program} {w : World} {f : FuncId} {args : List AV} {vs : Array Value} (N : Nat) (hf : FN P f args noStore fun rs _ => rs = [.bool true]) (ha : ArgsR w (bigR N w) args vs) :
    Calls P f vs w fun e w' => e = .returned (.bool true) ∧ Below w.heap.size w w' := by
  refine (hf ⟨bigR N w, fun _ => .none⟩ w vs ⟨fun _ _ => rfl, fun b hb => ?_⟩ (fun b => .inl rfl) (fun b o h => by cases h) ha).mono fun e w' ⟨v, rs, s', G', he, hq, _, _, hr, hp⟩ => ?_
  · show bigR N w b = 0
    unfold bigR
    rw [if_neg (by omega)]
  · subst hq
    refine ⟨?_, ⟨hp.os, hp.tape, hp.output, hp.size, fun b hb => hp.frame b hb (.inr rfl)⟩⟩
    rw [he]
    have := VR.inv_bool hr.1
    rw [this]
def VRs (w : World) (R : Nat → Nat) (as1 : List AV) (cs : List Value) : Prop := cs.length = as1.length ∧ ∀ (j : Nat) (a : AV) (v : Value), as1[j]? = some a → cs[j]? = some v → VR w R a v
theorem VRs.one {w : World} {R : Nat → Nat} {a : AV} {v : Value} (h : VR w R a v) : VRs w R [a] [v] := by
 refine ⟨rfl, fun j a' v' h1 h2 => ?_⟩
 cases j with
 | zero => cases h1; cases h2; exact h
 | succ j => simp at h1
theorem VRs.append {w : World} {R : Nat → Nat} {as1 bs : List AV} {cs ds : List Value} (h : VRs w R as1 cs) (k : VRs w R bs ds) : VRs w R (as1 ++ bs) (cs ++ ds) := by
  refine ⟨by rw [List.length_append, List.length_append, h.1, k.1], fun j a v h1 h2 => ?_⟩
  rcases Nat.lt_or_ge j as1.length with hj | hj
  · rw [List.getElem?_append_left hj] at h1
    rw [List.getElem?_append_left (by rw [h.1]; exact hj)] at h2
    exact h.2 j a v h1 h2
  · rw [List.getElem?_append_right hj] at h1
    rw [List.getElem?_append_right (by rw [h.1]; exact hj), h.1] at h2
    exact k.2 _ a v h1 h2
def OpensC (P : Program) (t : TypeId) {α : Type} (n : Nat) (C : α → List AV) (wf : α → Prop) : Prop :=
 ∀ (H : Type) (enc : TypeId × Value → H) (w : World) (fuel : Nat) (cs : List Value) (x : DataW H × List MemPlace), DataW.trod enc P w 0 (fun _ => true) true fuel t cs = some x →
  cs.length = n ∧ ∃ a : α, wf a ∧ Fl (C a) ∧ ∃ N0, ∀ N, N0 ≤ N → VRs w (bigR N w) (C a) cs
def Opens (P : Program) (t : TypeId) (α : Type) [Enc α] (wf : α → Prop) : Prop := OpensC P t (Enc.w α) (Enc.cells : α → List AV) wf
section
variable {P : Program} {t : TypeId}
theorem fl_one {a : AV} (h : flatV a = true) : Fl [a] := by
 intro c hc
 rw [List.mem_singleton] at hc; rw [hc]; exact h
theorem opens_bool (ht : P.underlying t = some .bool) : Opens P t Bool fun _ => True := by
 intro H enc w fuel cs x h
 obtain ⟨b, rfl, _⟩ := DataW.trod_bool ht h
 exact ⟨rfl, b, trivial, fl_one rfl, 0, fun N _ => VRs.one (.bool b)⟩
theorem opens_int (ht : P.underlying t = some (.int .i64)) : Opens P t Int fun n => -9223372036854775808 ≤ n ∧ n ≤ 9223372036854775807 := by
 intro H enc w fuel cs x h
 obtain ⟨n, rfl, _, hw⟩ := DataW.trod_int ht h
 refine ⟨rfl, n, ?_, fl_one rfl, 0, fun N _ => VRs.one (.int _ n)⟩
 simpa [Lit.wf, IntKind.min, IntKind.max, IntKind.signed, IntKind.bits] using hw
theorem opens_str (ht : P.underlying t = some .string) : Opens P t Str fun s => s.b.length ≤ maxLen := by
 intro H enc w fuel cs x h
 obtain ⟨s, rfl, _, hs⟩ := DataW.trod_string ht h
 refine ⟨rfl, ⟨s.data.toList⟩, by simpa using hs, fl_one rfl, 0, fun N _ => ?_⟩
 have := VR.str (w := w) (R := bigR N w) s.data.toList
 exact VRs.one this
theorem choose_list {α : Type} {Q : Nat → α → Prop} : ∀ n : Nat, (∀ i, i < n → ∃ a, Q i a) → ∃ l : List α, l.length = n ∧ ∀ (i : Nat) (a : α), l[i]? = some a → Q i a
  | 0, _ => ⟨[], rfl, fun i a h => by simp at h⟩
  | n + 1, h => by
    obtain ⟨l, h1, h2⟩ := choose_list n fun i hi => h i (by omega)
    obtain ⟨a, ha⟩ := h n (by omega)
    refine ⟨l ++ [a], by simp [h1], fun i x hx => ?_⟩
    rcases Nat.lt_or_ge i n with hi | hi
    · rw [List.getElem?_append_left (by omega)] at hx; exact h2 i x hx
    · rw [List.getElem?_append_right (by omega)] at hx
      have : i = n := by
        have := (List.getElem?_eq_some_iff.1 hx).1
        simp at this; omega
      subst this
      rw [h1, Nat.sub_self] at hx
      injection hx with hx; rw [← hx]; exact ha
theorem common {Q : Nat → Nat → Prop} : ∀ n : Nat, (∀ i, i < n → ∃ N0, ∀ N, N0 ≤ N → Q i N) → ∃ N0, ∀ N, N0 ≤ N → ∀ i, i < n → Q i N
  | 0, _ => ⟨0, fun _ _ i h => absurd h (Nat.not_lt_zero i)⟩
  | n + 1, h => by
    obtain ⟨a, ha⟩ := common n fun i hi => h i (by omega)
    obtain ⟨b, hb⟩ := h n (by omega)
    refine ⟨max a b, fun N hN i hi => ?_⟩
    rcases Nat.lt_or_ge i n with h1 | h1
    · exact ha N (by omega) i h1
    · have : i = n := by omega
      rw [this]; exact hb N (by omega)
theorem flat_get {α : Type} [Enc α] (l : List α) {i r : Nat} {a : α} (hi : l[i]? = some a) (hr : r < Enc.w α) : (flat l)[i * Enc.w α + r]? = (Enc.cells a)[r]? := by
 have h1 := flat_sub l (Enc.w α) i 1 rfl
 obtain ⟨hlt, he⟩ := List.getElem?_eq_some_iff.1 hi
 have h2 : (l.drop i).take 1 = [a] := by rw [List.drop_eq_getElem_cons hlt, he]; rfl
 rw [h2, flat_cons, flat_nil, List.append_nil, Nat.one_mul] at h1
 rw [← h1]
 unfold AB.sub
 rw [List.getElem?_take, if_pos hr, List.getElem?_drop]
end
end Go.AB
end

section
namespace Go.AB
open Go Go.RowKit Go.ChangeShapes Go.WideShapes
section
variable {P : Program}
theorem trodAll_below {H : Type} {enc : TypeId × Value → H} (hl : laidOutB P = true) {W W' : World} (hb : Below W.heap.size W W') :
  ∀ {ts : List TypeId} {vs : List Value} {ds : List (DataW H)} {ps : List MemPlace}, (∀ t ∈ ts, P.readableRec t = true ∧ t < P.types.size) → DataW.TrodAll enc P W 0 (fun _ => true) true ts vs ds ps →
   DataW.TrodAll enc P W' 0 (fun b => decide (b < W.heap.size)) true ts vs ds ps
 | [], [], [], _, _, h => h
 | t :: ts, v :: vs, d :: ds, _, hr, h => by
  have hlt := h.lt
  obtain ⟨p, q, h1, h2, rfl⟩ := h
  have ht := hr t List.mem_cons_self
  exact ⟨p, q, Below.trod hl ht.1 ht.2 h1 hb fun x hx => hlt x (List.mem_append_left _ hx), trodAll_below hl hb (fun t ht => hr t (List.mem_cons_of_mem _ ht)) h2, rfl⟩
 | [], _ :: _, _, _, _, h => h.elim
 | [], [], _ :: _, _, _, h => h.elim
 | _ :: _, [], _, _, _, h => h.elim
 | _ :: _, _ :: _, [], _, _, h => h.elim
theorem law_post {H : Type} {enc : TypeId × Value → H} {fn : Func} {s : ChangeSpec} {f : FuncId} {W : World} {args : Array Value} {ds gs : List (DataW H)} {before : List MemPlace} {tb : TypeId}
    (hvars : s.vars = []) (hres : fn.resultTypes = #[tb]) (htb : P.underlying tb = some .bool) (hl : laidOutB P = true) (hr : ∀ t ∈ fn.params.toList, P.readableRec t = true ∧ t < P.types.size)
    (hspec : ∀ ds : List (DataW H), ds.length = fn.params.toList.length → s.fn H ds = { results := [.lit (.bool true)], args := ds })
    (hW : DataW.Whole enc P fn.params.toList s.vars false W args.toList ds gs before)
    (hc : Calls P f args W fun e w' => e = .returned (.bool true) ∧ Below W.heap.size W w') :
    Calls P f args W fun e W' => ∃ v, e = .returned v ∧ s.post enc P fn false true false false W args v W' := by
  refine hc.mono fun e W' ⟨he, hb⟩ => ⟨.bool true, he, ?_⟩
  have hW' := hW
  obtain ⟨p, q, hA, hV, rfl, hfz, hnd⟩ := hW
  rw [hvars] at hV
  obtain ⟨rfl, rfl⟩ := trodVars_none hV
  have hs := hspec ds (trodAll_length hA).2
  refine ⟨ds, [], _, [], p, [], hW', ?_, ?_, ?_, ?_, fun h => by cases h⟩
  · rw [List.append_nil, hs, hres]
    exact trodAll_mk1 (shut_bool htb true)
  · rw [List.append_nil, hs]
    exact trodAll_below hl hb hr hA
  · rw [List.append_nil, hs, hvars]
    exact rfl
  · exact World.keptBut_mono (fun p hp => hp.elim) (hb.frame fun _ => False)
def OpensF (P : Program) (fs : List (TypeId × Nat)) (o : Nat) {α : Type} (n : Nat) (C : α → List AV) (wf : α → Prop) : Prop :=
 ∀ (H : Type) (enc : TypeId × Value → H) (w : World) (fuel : Nat) (cs : List Value), (∀ f ∈ fs, ∃ x, DataW.trod enc P w 0 (fun _ => true) true fuel f.1 ((cs.drop f.2).take (P.cellsOf f.1)) = some x) →
  ∃ a : α, wf a ∧ Fl (C a) ∧ ∃ N0, ∀ N, N0 ≤ N → VRs w (bigR N w) (C a) ((cs.drop o).take n)
theorem opensF_nil {o : Nat} : OpensF P [] o 0 (fun _ : Unit => []) fun _ => True :=
 fun _ _ _ _ _ _ => ⟨(), trivial, (fun _ h => absurd h List.not_mem_nil), 0, fun _ _ => ⟨by simp, fun j a v h => by simp at h⟩⟩
theorem opensF_cons {t : TypeId} {o n1 n2 : Nat} {fs : List (TypeId × Nat)} {α β : Type} {C1 : α → List AV} {C2 : β → List AV} {wf1 : α → Prop} {wf2 : β → Prop}
  (h1 : OpensC P t n1 C1 wf1) (hc : P.cellsOf t = n1) (h2 : OpensF P fs (o + n1) n2 C2 wf2) : OpensF P ((t, o) :: fs) o (n1 + n2) (fun p : α × β => C1 p.1 ++ C2 p.2) fun p => wf1 p.1 ∧ wf2 p.2 := by
 intro H enc w fuel cs h
 obtain ⟨x, hx⟩ := h _ List.mem_cons_self
 obtain ⟨_, a, ha, hfa, N1, hN1⟩ := h1 H enc w fuel _ x hx
 obtain ⟨b, hb, hfb, N2, hN2⟩ := h2 H enc w fuel cs fun f hf => h f (List.mem_cons_of_mem _ hf)
 refine ⟨(a, b), ⟨ha, hb⟩, fun c hc => (List.mem_append.1 hc).elim (hfa c) (hfb c), max N1 N2, fun N hN => ?_⟩
 rw [List.take_add, List.drop_drop]
 refine VRs.append ?_ (hN2 N (by omega))
 rw [← hc]
 exact hN1 N (by omega)
theorem OpensC.map {t : TypeId} {n : Nat} {α β : Type} {C : α → List AV} {wf : α → Prop} (h : OpensC P t n C wf) {C' : β → List AV} {wf' : β → Prop} (g : α → β) (hC : ∀ a, C' (g a) = C a) (hw : ∀ a, wf a → wf' (g a)) : OpensC P t n C' wf' := by
 intro H enc w fuel cs x hx
 obtain ⟨h1, a, h2, h3, N0, h4⟩ := h H enc w fuel cs x hx
 exact ⟨h1, g a, hw a h2, by rw [hC]; exact h3, N0, by rw [hC]; exact h4⟩
theorem opens_struct {t : TypeId} {fs : Array Field} {n : Nat} {α : Type} {C : α → List AV} {wf : α → Prop} (ht : P.underlying t = some (.struct fs)) (hn : P.cellsOf t = n)
  (hf : OpensF P (fs.toList.map fun f => (f.type, f.offset)) 0 n C wf) : OpensC P t n C wf := by
 intro H enc w fuel cs x h
 obtain ⟨xs, m, _, _, hl, hxl, hel⟩ := DataW.trod_struct ht h
 obtain ⟨a, ha, hfa, N0, hN⟩ := hf H enc w m cs fun f hf => by
  obtain ⟨g, hg, rfl⟩ := List.mem_map.1 hf
  obtain ⟨i, hi⟩ := List.getElem?_of_mem hg
  have h1 := hel i g (by rw [← Array.getElem?_toList]; exact hi)
  have hi' := (List.getElem?_eq_some_iff.1 hi).1
  rw [List.getElem?_eq_getElem (by simpa [hxl] using hi')] at h1
  exact ⟨_, h1⟩
 refine ⟨by rw [hl, hn], a, ha, hfa, N0, fun N h => ?_⟩
 have := hN N h
 rwa [List.drop_zero, List.take_of_length_le (by omega)] at this
section
variable {H : Type} {enc : TypeId × Value → H} {w : World} {t : TypeId} {α : Type} [Enc α] {wf : α → Prop} {b0 : Nat} {v : Value} {d : DataW H} {ps : List MemPlace}
theorem open_agg (hs : (∃ fs, P.underlying t = some (.struct fs)) ∨ ∃ n e, P.underlying t = some (.array n e)) (he : Opens P t α wf) (hval : Value.okWide P w .any b0 t v) (h : DataW.Trod enc P w 0 (fun _ => true) true t v d ps) :
  ∃ a : α, wf a ∧ ∃ N0, ∀ N, N0 ≤ N → VR w (bigR N w) (.agg (Enc.cells a)) v := by
 have hv : ∃ cs, v = .agg cs := by
  unfold Value.okWide at hval
  rcases hs with ⟨fs, hs⟩ | ⟨n, e, hs⟩ <;> rw [hs] at hval <;> obtain ⟨cs, rfl, _⟩ := hval <;> exact ⟨cs, rfl⟩
 obtain ⟨cs, rfl⟩ := hv
 obtain ⟨fuel, hf⟩ := h
 obtain ⟨_, a, ha, hfl, N0, hN⟩ := he H enc w fuel _ _ hf
 refine ⟨a, ha, N0, fun N h => ?_⟩
 have h1 := hN N h
 exact .agg _ _ hfl (by simpa [Value.cells] using h1.1) fun j c v h2 h3 => h1.2 j c v h2 (by simpa [Value.cells] using h3)
theorem VRs.head {R : Nat → Nat} {a : AV} (h : VRs w R [a] [v]) : VR w R a v := h.2 0 a v rfl rfl
end
theorem args2 {w : World} {R : Nat → Nat} {a0 a1 : AV} {v0 v1 : Value} (h0 : VR w R a0 v0) (h1 : VR w R a1 v1) : ArgsR w R [a0, a1] #[v0, v1] :=
 ⟨rfl, fun j a v k1 k2 => by match j, k1, k2 with | 0, k1, k2 => (cases k1; cases k2; exact h0) | 1, k1, k2 => (cases k1; cases k2; exact h1)⟩
end
end Go.AB
end

section
namespace Go.AB
open Go
def fieldsAre (P : Program) (t : TypeId) (L : List (TypeId × Nat)) : Bool := match P.underlying t with
 | some (.struct fs) => fs.toList.map (fun f => (f.type, f.offset)) == L
 | _ => false
theorem opens_fields {P : Program} {t : TypeId} {L : List (TypeId × Nat)} {n : Nat} {α : Type} {C : α → List AV} {wf : α → Prop} (hs : fieldsAre P t L = true) (hn : P.cellsOf t = n) (hf : OpensF P L 0 n C wf) : OpensC P t n C wf := by
  unfold fieldsAre at hs
  split at hs
  · rename_i fs ht
    have he := eq_of_beq hs
    exact opens_struct ht hn (by rw [he]; exact hf)
  · cases hs
end Go.AB
end

section
namespace Go.AB
open Go Go.RowKit Go.ChangeShapes Go.WideShapes
def OpensB (K : Nat) (P : Program) (t : TypeId) {α : Type} (n : Nat) (C : α → List AV) (wf : α → Prop) : Prop :=
 ∀ (H : Type) (enc : TypeId × Value → H) (w : World) (fuel : Nat) (cs : List Value) (x : DataW H × List MemPlace), fuel ≤ K → DataW.trod enc P w 0 (fun _ => true) true fuel t cs = some x →
  cs.length = n ∧ ∃ a : α, wf a ∧ Fl (C a) ∧ ∃ N0, ∀ N, N0 ≤ N → VRs w (bigR N w) (C a) cs
def OpensFB (K : Nat) (P : Program) (fs : List (TypeId × Nat)) (o : Nat) {α : Type} (n : Nat) (C : α → List AV) (wf : α → Prop) : Prop :=
 ∀ (H : Type) (enc : TypeId × Value → H) (w : World) (fuel : Nat) (cs : List Value), fuel ≤ K → (∀ f ∈ fs, ∃ x, DataW.trod enc P w 0 (fun _ => true) true fuel f.1 ((cs.drop f.2).take (P.cellsOf f.1)) = some x) →
  ∃ a : α, wf a ∧ Fl (C a) ∧ ∃ N0, ∀ N, N0 ≤ N → VRs w (bigR N w) (C a) ((cs.drop o).take n)
section
variable {P : Program} {t : TypeId}
theorem OpensC.b {n : Nat} {α : Type} {C : α → List AV} {wf : α → Prop} (h : OpensC P t n C wf) (K : Nat) : OpensB K P t n C wf := fun H enc w fuel cs x _ hx => h H enc w fuel cs x hx
theorem OpensB.all {n : Nat} {α : Type} {C : α → List AV} {wf : α → Prop} (h : ∀ K, OpensB K P t n C wf) : OpensC P t n C wf := fun H enc w fuel cs x hx => h fuel H enc w fuel cs x (Nat.le_refl _) hx
theorem OpensB.zero {n : Nat} {α : Type} {C : α → List AV} {wf : α → Prop} : OpensB 0 P t n C wf := fun H enc w fuel cs x hf hx => by
 have : fuel = 0 := by omega
 subst this
 simp [DataW.trod] at hx
theorem OpensB.map {K n : Nat} {α β : Type} {C : α → List AV} {wf : α → Prop} (h : OpensB K P t n C wf) {C' : β → List AV} {wf' : β → Prop} (g : α → β) (hC : ∀ a, C' (g a) = C a) (hw : ∀ a, wf a → wf' (g a)) : OpensB K P t n C' wf' := by
 intro H enc w fuel cs x hf hx
 obtain ⟨h1, a, h2, h3, N0, h4⟩ := h H enc w fuel cs x hf hx
 exact ⟨h1, g a, hw a h2, by rw [hC]; exact h3, N0, by rw [hC]; exact h4⟩
theorem opensFB_nil {K o : Nat} : OpensFB K P [] o 0 (fun _ : Unit => []) fun _ => True :=
 fun _ _ _ _ _ _ _ => ⟨(), trivial, (fun _ h => absurd h List.not_mem_nil), 0, fun _ _ => ⟨by simp, fun j a v h => by simp at h⟩⟩
theorem opensFB_cons {K : Nat} {t : TypeId} {o n1 n2 : Nat} {fs : List (TypeId × Nat)} {α β : Type} {C1 : α → List AV} {C2 : β → List AV} {wf1 : α → Prop} {wf2 : β → Prop}
  (h1 : OpensB K P t n1 C1 wf1) (hc : P.cellsOf t = n1) (h2 : OpensFB K P fs (o + n1) n2 C2 wf2) : OpensFB K P ((t, o) :: fs) o (n1 + n2) (fun p : α × β => C1 p.1 ++ C2 p.2) fun p => wf1 p.1 ∧ wf2 p.2 := by
 intro H enc w fuel cs hk h
 obtain ⟨x, hx⟩ := h _ List.mem_cons_self
 obtain ⟨_, a, ha, hfa, N1, hN1⟩ := h1 H enc w fuel _ x hk hx
 obtain ⟨b, hb, hfb, N2, hN2⟩ := h2 H enc w fuel cs hk fun f hf => h f (List.mem_cons_of_mem _ hf)
 refine ⟨(a, b), ⟨ha, hb⟩, fun c hc => (List.mem_append.1 hc).elim (hfa c) (hfb c), max N1 N2, fun N hN => ?_⟩
 rw [List.take_add, List.drop_drop]
 refine VRs.append ?_ (hN2 N (by omega))
 rw [← hc]
 exact hN1 N (by omega)
theorem opens_fieldsB {K : Nat} {L : List (TypeId × Nat)} {n : Nat} {α : Type} {C : α → List AV} {wf : α → Prop} (hs : fieldsAre P t L = true) (hn : P.cellsOf t = n) (hf : OpensFB K P L 0 n C wf) : OpensB (K + 1) P t n C wf := by
  unfold fieldsAre at hs
  split at hs
  · rename_i fs ht
    have he := eq_of_beq hs
    subst he
    intro H enc w fuel cs x hk h
    obtain ⟨xs, m, rfl, _, hl, hxl, hel⟩ := DataW.trod_struct ht h
    obtain ⟨a, ha, hfa, N0, hN⟩ := hf H enc w m cs (by omega) fun f hf => by
      obtain ⟨g, hg, rfl⟩ := List.mem_map.1 hf
      obtain ⟨i, hi⟩ := List.getElem?_of_mem hg
      have h1 := hel i g (by rw [← Array.getElem?_toList]; exact hi)
      have hi' := (List.getElem?_eq_some_iff.1 hi).1
      rw [List.getElem?_eq_getElem (by simpa [hxl] using hi')] at h1
      exact ⟨_, h1⟩
    refine ⟨by rw [hl, hn], a, ha, hfa, N0, fun N h => ?_⟩
    have := hN N h
    rwa [List.drop_zero, List.take_of_length_le (by omega)] at this
  · cases hs
theorem slice_cell {w : World} {α : Type} [Enc α] {wf : α → Prop} {a : Addr} {len cap : Nat} (hl : len ≤ cap) (hm : cap ≤ maxLen)
    (each : ∀ i, i < len → ∃ x : α × List Value, wf x.1 ∧ Fl (Enc.cells x.1) ∧ w.cells? 0 (a.add (i * Enc.w α)) (Enc.w α) = some x.2 ∧ ∃ N0, ∀ N, N0 ≤ N → VRs w (bigR N w) (Enc.cells x.1) x.2) :
    ∃ l : List α, (l.length ≤ maxLen ∧ ∀ a ∈ l, wf a) ∧ Fl [.sl false (Enc.w α) l.length (flat l)] ∧ ∃ N0, ∀ N, N0 ≤ N → VRs w (bigR N w) [.sl false (Enc.w α) l.length (flat l)] [.slice (some a) len cap] := by
  have hw : 0 < Enc.w α := Enc.pos
  rcases Nat.eq_zero_or_pos len with h0 | h0
  · subst h0
    exact ⟨[], ⟨Nat.zero_le _, fun _ h => absurd h List.not_mem_nil⟩, fl_one rfl, 0, fun N _ => .one (.sle _ _ _)⟩
  obtain ⟨b, off, spot⟩ := a
  have hplain : spot = none ∧ b < w.heap.size := by
    obtain ⟨x, _, _, h2, _⟩ := each 0 h0
    obtain ⟨_, h3, h4⟩ := World.cells?_some h2
    have h5 := h4 0 hw
    have hxl : 0 < x.2.length := by omega
    rw [List.getElem?_eq_getElem hxl] at h5
    unfold World.cell? at h5
    have e1 : (((⟨b, off, spot⟩ : Addr).add (0 * Enc.w α)).add 0).block = b := by
      unfold Addr.add; repeat' split
      all_goals rfl
    have e2 : (((⟨b, off, spot⟩ : Addr).add (0 * Enc.w α)).add 0).spot.isSome = spot.isSome := by
      cases spot with
      | none => unfold Addr.add; repeat' split
                all_goals simp_all
      | some q => unfold Addr.add; repeat' split
                  all_goals simp_all
    rw [e1, e2] at h5
    split at h5
    · rename_i hh
      refine ⟨?_, (Array.getElem?_eq_some_iff.1 hh).1⟩
      cases spot with
      | none => rfl
      | some q => simp at h5
    · cases h5
  obtain ⟨rfl, hb⟩ := hplain
  obtain ⟨L, hL, hQ⟩ := choose_list len each
  have hx : ∀ i, i < len → ∃ x, L[i]? = some x := fun i hi => ⟨L[i]'(by omega), List.getElem?_eq_getElem (by omega)⟩
  obtain ⟨N0, hN0⟩ := common (Q := fun i N => ∀ x, L[i]? = some x → VRs w (bigR N w) (Enc.cells x.1) x.2) len fun i hi => by
    obtain ⟨x, hx⟩ := hx i hi
    obtain ⟨_, _, _, N0, h⟩ := hQ i x hx
    exact ⟨N0, fun N hN y hy => by rw [hx] at hy; cases hy; exact h N hN⟩
  have hwf : ∀ a ∈ L.map (·.1), wf a ∧ Fl (Enc.cells a) := by
    intro a ha
    obtain ⟨x, hx, rfl⟩ := List.mem_map.1 ha
    obtain ⟨i, hi⟩ := List.getElem?_of_mem hx
    have := hQ i x hi
    exact ⟨this.1, this.2.1⟩
  have hget : ∀ (j : Nat) (c : AV), (flat (L.map (·.1)))[j]? = some c → ∃ v, w.cell? ⟨b, off + j, none⟩ = some v ∧ ∀ N, N0 ≤ N → VR w (bigR N w) c v := by
    intro j c hj
    have hjl := (List.getElem?_eq_some_iff.1 hj).1
    rw [flat_len, List.length_map, hL] at hjl
    have hi : j / Enc.w α < len := Nat.div_lt_of_lt_mul (by rw [Nat.mul_comm]; exact hjl)
    have hr : j % Enc.w α < Enc.w α := Nat.mod_lt _ hw
    have hje : j = j / Enc.w α * Enc.w α + j % Enc.w α := by rw [Nat.mul_comm]; exact (Nat.div_add_mod _ _).symm
    obtain ⟨x, hx⟩ := hx _ hi
    have h1 := flat_get (L.map (·.1)) (i := j / Enc.w α) (a := x.1) (by rw [List.getElem?_map, hx]; rfl) hr
    rw [← hje, hj] at h1
    obtain ⟨_, _, h2, _⟩ := hQ _ x hx
    obtain ⟨_, h3, h4⟩ := World.cells?_some h2
    have h5 := h4 _ hr
    rw [add_plain, add_plain, Nat.add_assoc, ← hje] at h5
    refine ⟨x.2[j % Enc.w α]'(by omega), by rw [h5, List.getElem?_eq_getElem], fun N hN => ?_⟩
    exact (hN0 N hN _ hi x hx).2 _ _ _ h1.symm (List.getElem?_eq_getElem _)
  refine ⟨L.map (·.1), ⟨by rw [List.length_map, hL]; omega, fun a ha => (hwf a ha).1⟩, fl_one rfl, max N0 (off + len * Enc.w α), fun N hN => .one ?_⟩
  rw [List.length_map, hL]
  refine .sl false (Enc.w α) len _ b off cap (fun j => (w.cell? ⟨b, off + j, none⟩).getD default) ?_ ?_ ?_ hl ?_ ?_
  · intro c hcm
    unfold flat at hcm
    obtain ⟨l, hl, hcl⟩ := List.mem_flatten.1 hcm
    obtain ⟨a, ha, rfl⟩ := List.mem_map.1 hl
    exact (hwf a ha).2 c hcl
  · rw [flat_len, List.length_map, hL]
  · rw [flat_len, List.length_map, hL]
    unfold bigR
    rw [if_pos hb]; omega
  · intro j c hj
    obtain ⟨v, h1, _⟩ := hget j c hj
    rw [h1]; rfl
  · intro j c hj
    obtain ⟨v, h1, h2⟩ := hget j c hj
    simp only [h1, Option.getD_some]; exact h2 N (by omega)
theorem opens_sliceB {K : Nat} {e : TypeId} {α : Type} [Enc α] {wf : α → Prop} (ht : P.underlying t = some (.slice e)) (hc : P.cellsOf e = Enc.w α) (he : OpensB K P e (Enc.w α) (Enc.cells : α → List AV) wf) :
    OpensB (K + 1) P t 1 (fun l : List α => [.sl false (Enc.w α) l.length (flat l)]) fun l => l.length ≤ maxLen ∧ ∀ a ∈ l, wf a := by
  intro H enc w fuel cs x hk h
  rcases DataW.trod_slice ht h with ⟨rfl, _⟩ | ⟨a, len, cap, elems, rest, n, rfl, rfl, _, _, hl, hm, hlen, hel, _⟩
  · exact ⟨rfl, [], ⟨Nat.zero_le _, fun _ h => absurd h List.not_mem_nil⟩, fl_one rfl, 0, fun N _ => .one (.slnil _ _)⟩
  · refine ⟨rfl, slice_cell hl hm fun i hi => ?_⟩
    have h1 := hel i hi
    rw [hc, List.getElem?_eq_getElem (by omega), Option.bind_eq_some_iff] at h1
    obtain ⟨cs, h2, h3⟩ := h1
    obtain ⟨_, x, h4, h5, h6⟩ := he H enc w n cs _ (by omega) h3
    exact ⟨(x, cs), h4, h5, h2, h6⟩
theorem fieldsAre_ex {L : List (TypeId × Nat)} (hs : fieldsAre P t L = true) : ∃ fs, P.underlying t = some (.struct fs) := by
  unfold fieldsAre at hs
  split at hs
  · rename_i fs ht; exact ⟨fs, ht⟩
  · cases hs
end
end Go.AB
end

section
set_option linter.unusedSimpArgs false
namespace Go.AB
open Go Go.ChangeShapes Go.WideShapes Go.ChangeAt Go.RowKit Go.Proofs.YtedaacdjoddnaaaGreatDoor Go.Proofs
inductive wf_api_Value : api_Value → Prop where
 | mk (x : api_Value) (h1 : -9223372036854775808 ≤ x.Kind ∧ x.Kind ≤ 9223372036854775807) (h2 : -9223372036854775808 ≤ x.N ∧ x.N ≤ 9223372036854775807) (h3 : x.S.b.length ≤ maxLen) (h4 : x.L.length ≤ maxLen) (h5 : ∀ v ∈ x.L, wf_api_Value v) : wf_api_Value x
theorem opens_24 : Opens Go.Proofs.Tryz.prog 24 api_Value wf_api_Value := by
 refine OpensB.all fun K => ?_
 induction K using Nat.strongRecOn with | ind K ih =>
 cases K with
 | zero => exact OpensB.zero
 | succ K =>
  have hs : OpensB K Go.Proofs.Tryz.prog 22 1 (fun l : List api_Value => [.sl false 4 l.length (flat l)]) (fun l => l.length ≤ maxLen ∧ ∀ a ∈ l, wf_api_Value a) := by
   cases K with
   | zero => exact OpensB.zero
   | succ k => exact opens_sliceB (by kernel_rfl) (by kernel_rfl) (ih k (by omega))
  exact OpensB.map (opens_fieldsB (L := [(3, 0), (3, 1), (9, 2), (22, 3)]) (by kernel_rfl) (by kernel_rfl) (opensFB_cons ((opens_int (P := Go.Proofs.Tryz.prog) (t := 3) (by kernel_rfl)).b K) (by kernel_rfl) (opensFB_cons ((opens_int (P := Go.Proofs.Tryz.prog) (t := 3) (by kernel_rfl)).b K) (by kernel_rfl) (opensFB_cons ((opens_str (P := Go.Proofs.Tryz.prog) (t := 9) (by kernel_rfl)).b K) (by kernel_rfl) (opensFB_cons hs (by kernel_rfl) opensFB_nil)))))
   (fun p => ⟨p.1, p.2.1, p.2.2.1, p.2.2.2.1⟩) (fun p => by rw [cells_api_Value]; rfl) (fun p h => .mk _ h.1 h.2.1 h.2.2.1 h.2.2.2.1.1 h.2.2.2.1.2)
def wf_api_Object (x : api_Object) : Prop := wf_api_Value x.V ∧ True ∧ x.Data.b.length ≤ maxLen ∧ True
theorem opens_26 : Opens Go.Proofs.Tryz.prog 26 api_Object wf_api_Object :=
 OpensC.map (opens_fields (L := [(24, 0), (4, 4), (9, 5)]) (by kernel_rfl) (by kernel_rfl) (opensF_cons opens_24 (by kernel_rfl) (opensF_cons (opens_bool (P := Go.Proofs.Tryz.prog) (t := 4) (by kernel_rfl)) (by kernel_rfl) (opensF_cons (opens_str (P := Go.Proofs.Tryz.prog) (t := 9) (by kernel_rfl)) (by kernel_rfl) opensF_nil))))
  (fun p => ⟨p.1, p.2.1, p.2.2.1⟩) (fun p => by first | rfl | (simp only [cells_api_Value, cells_api_Object]; rfl)) (fun _ h => h)
theorem law14_FrameChecks_own : ownKnob Tryz.prog.godebug = none := by kernel_rfl
theorem law14_FrameChecks_laid : laidOutB Tryz.prog = true := by kernel_rfl
theorem law14_FrameChecks_ub : Tryz.prog.underlying 4 = some .bool := by kernel_rfl
set_option maxRecDepth 100000 in
theorem law14_FrameChecks_law {H : Type} {enc : TypeId × Value → H} {W : World} {base : Nat} {args : Array Value} {ds gs : List (DataW H)} {before : List MemPlace}
  (hval0 : ∀ (j : Nat) t v, Tryz.f3.params[j]? = some t → args[j]? = some v → Value.okWide Tryz.prog W .any base t v)
  (hW : DataW.Whole enc Tryz.prog Tryz.f3.params.toList Rows.frameChecksSpec.vars false W args.toList ds gs before) :
  Calls Tryz.prog 3 args W fun e w' => e = .returned (.bool true) ∧ Below W.heap.size W w' := by
 obtain ⟨p, q, hA0, hV, rfl, hfz, hnd⟩ := hW
 have hval := hval0
 have hA : DataW.TrodAll enc Tryz.prog W 0 (fun _ => true) true Tryz.f3.params.toList args.toList ds p := hA0
 have hp : Tryz.f3.params = #[26, 26] := by kernel_rfl
 rw [hp] at hA hval
 obtain ⟨v0, v1, d0, d1, p0, p1, rfl, rfl, rfl, h0, h1⟩ := trodAll_two hA
 obtain ⟨x0, w0, N0, k0⟩ := open_agg (.inl (fieldsAre_ex (L := [(24, 0), (4, 4), (9, 5)]) (by kernel_rfl))) opens_26 (hval 0 26 v0 rfl rfl) h0
 obtain ⟨x1, w1, N1, k1⟩ := open_agg (.inl (fieldsAre_ex (L := [(24, 0), (4, 4), (9, 5)]) (by kernel_rfl))) opens_26 (hval 1 26 v1 rfl rfl) h1
 refine law_calls' (max N0 N1) ?_ (args2 (k0 _ (by omega)) (k1 _ (by omega)))
 exact (law14_FrameChecks_fe (law14_FrameChecks_true x0 x1)).app rfl
end Go.AB
namespace Go.Proofs.YtedaacdjoddnaaaGreatDoor
open Go.ChangeShapes Go.WideShapes Go.ChangeAt Go.RowKit
set_option maxRecDepth 100000 in
theorem frameChecks_lifted (os : Os) (started : os.Started) (H : Type) (enc : TypeId × Value → H) :
  ReturnsInHanded {} Tryz.checked os 3 .any (fun w args => (Rows.frameChecksSpec.pre enc Tryz.prog Tryz.f3 [] false w args ∧ laidMetH Tryz.prog Rows.frameChecksRow.laid w) ∧ sizedMet enc Tryz.prog Tryz.f3 (OpenSpec.ofChange Rows.frameChecksSpec) false w args)
   (Rows.frameChecksSpec.post enc Tryz.prog Tryz.f3 false true false false) := by
 refine returnsInHanded_of_change_and (C := Tryz.checked) (X := fun w _ => laidMetH Tryz.prog Rows.frameChecksRow.laid w) (fun _ _ _ hh h => h.of_heap hh) AB.law14_FrameChecks_own started (by kernel_rfl) Tryz.func3
  (ChangeSpec.witness_shaped (enc := enc) (C := Tryz.checked) (os := os) (X := fun w _ => laidMetH Tryz.prog Rows.frameChecksRow.laid w) false (World.laidAll Tryz.prog os Rows.frameChecksRow.laid) #[.agg #[.int .i64 0, .int .i64 0, .string ⟨#[]⟩, .slice none 0 0, .bool false, .string ⟨#[]⟩], .agg #[.int .i64 0, .int .i64 0, .string ⟨#[]⟩, .slice none 0 0, .bool false, .string ⟨#[]⟩]] 8 (World.laidAll_os _ _ _)
   (World.shaped_of_ZipB (by kernel_rfl) (by kernel_rfl)) (by kernel_rfl) (by kernel_rfl) (by kernel_rfl)
   (by rw [MakeChecks.laidMetH_plain _ _ _ (by kernel_rfl)]; exact laidMet_laidAll _ (by kernel_rfl) (by kernel_rfl))) ?_
 intro W base args ds gs before hval hW _ _ _ _
 exact AB.law_post rfl (by kernel_rfl) AB.law14_FrameChecks_ub AB.law14_FrameChecks_laid (of_decide_eq_true (by kernel_rfl)) (fun ds h => by
  match ds, h with
  | [_, _], _ => rfl) hW (AB.law14_FrameChecks_law hval hW)
theorem and_t {a b : Bool} (h : a = true) (k : b = true) : (a && b) = true := by rw [h, k]; rfl
theorem frameChecks_k0 : (Rows.frameChecksRow.wf (OpenSpec.ofChange Rows.frameChecksSpec)) = true := by kernel_rfl
theorem frameChecks_k1 : (laidOutB Tryz.checked.prog) = true := by kernel_rfl
theorem frameChecks_k2 : (mapsRowed Tryz.checked.prog) = true := by kernel_rfl
theorem frameChecks_k3 : (Tryz.f3.params.all (Tryz.checked.prog.readableRec ·)) = true := by kernel_rfl
theorem frameChecks_k4 : (namedTie Tryz.checked.prog Rows.frameChecksRow.named Rows.frameChecksSpec.vars) = true := by kernel_rfl
theorem frameChecks_k5 : ((Rows.frameChecksRow.stops == [])) = true := by kernel_rfl
theorem frameChecks_k6 : ((Tryz.checked.prog.stops == [])) = true := by kernel_rfl
theorem frameChecks_k7 : ((Rows.frameChecksRow.knobs == [])) = true := by kernel_rfl
theorem frameChecks_k8 : ((Tryz.checked.prog.stopKnobs == [])) = true := by kernel_rfl
theorem frameChecks_k9 : ((Rows.frameChecksRow.inPlace == Tryz.checked.prog.inPlace 3)) = true := by kernel_rfl
theorem frameChecks_k10 : ((Rows.frameChecksRow.unfollowed == Tryz.checked.prog.unfollowed 3)) = true := by kernel_rfl
theorem frameChecks_k11 : ((Rows.frameChecksRow.recurses == Tryz.checked.prog.recurses 3)) = true := by kernel_rfl
theorem frameChecks_k12 : ((Rows.frameChecksRow.named == Tryz.checked.prog.varsNamed 3)) = true := by kernel_rfl
theorem frameChecks_k13 : ((Rows.frameChecksRow.maps == (Tryz.f3.params.toList ++ Rows.frameChecksSpec.plain.varTypes Tryz.checked.prog).any (Tryz.checked.prog.mapsRec ·))) = true := by kernel_rfl
theorem frameChecks_k14 : ((Rows.frameChecksRow.ifaces == (Tryz.f3.params.toList ++ Rows.frameChecksSpec.plain.varTypes Tryz.checked.prog).any (Tryz.checked.prog.ifacesRec ·))) = true := by kernel_rfl
theorem frameChecks_k15 : ((Rows.frameChecksRow.mapsOut == Tryz.checked.prog.mapsAmong Tryz.f3.resultTypes.toList)) = true := by kernel_rfl
theorem frameChecks_k16 : ((Rows.frameChecksRow.loops == (Tryz.f3.params.toList ++ Rows.frameChecksSpec.plain.varTypes Tryz.checked.prog).any (Tryz.checked.prog.loopsFrom ·))) = true := by kernel_rfl
theorem frameChecks_k17 : ((Rows.frameChecksRow.wideKeys == (Tryz.f3.params.toList ++ Rows.frameChecksSpec.plain.varTypes Tryz.checked.prog ++ Tryz.f3.resultTypes.toList).any (Tryz.checked.prog.wideKeysFrom ·))) = true := by kernel_rfl
theorem frameChecks_k18 : (Rows.frameChecksSpec.vars.all (Tryz.checked.prog.varReadable ·)) = true := by kernel_rfl
theorem frameChecks_k19 : (Tryz.f3.resultTypes.all (fun t => Tryz.checked.prog.readableRec t && decide (t < Tryz.checked.prog.types.size))) = true := by kernel_rfl
theorem frameChecks_k20 : ((Rows.frameChecksRow.ifacesOut == Tryz.f3.resultTypes.toList.any (Tryz.checked.prog.ifacesRec ·))) = true := by kernel_rfl
theorem frameChecks_k21 : ((Rows.frameChecksRow.loopsOut == Tryz.f3.resultTypes.toList.any (Tryz.checked.prog.loopsFrom ·))) = true := by kernel_rfl
theorem frameChecks_k22 : ((Rows.frameChecksRow.plainKeys == Tryz.checked.prog.plainKeys)) = true := by kernel_rfl
theorem frameChecks_k23 : (Rows.frameChecksRow.shortTexts.isNone) = true := by kernel_rfl
theorem frameChecks_k24 : (Tryz.checked.prog.stopsHeard) = true := by kernel_rfl
theorem frameChecks_k25 : (Tryz.checked.prog.mayEnter) = true := by kernel_rfl
theorem frameChecks_k26 : ((Rows.frameChecksRow.lifted == Tryz.checked.prog.liftsFinal)) = true := by kernel_rfl
theorem frameChecks_k27 : ((Tryz.checked.prog.make == some Rows.frameChecksRow.make)) = true := by kernel_rfl
theorem frameChecks_k28 : ((Rows.frameChecksRow.kinds == (if Rows.frameChecksRow.domain.isEmpty then [] else Tryz.f3.params.toList.map fun t => match Tryz.checked.prog.underlying t with | some (.int k) => some k | _ => none))) = true := by kernel_rfl
theorem frameChecks_k29 : ((Rows.frameChecksRow.pinned == Rows.frameChecksRow.pinnedBy)) = true := by kernel_rfl
theorem frameChecks_k30 : ((Rows.frameChecksRow.veiled == (Tryz.f3.params.toList ++ Rows.frameChecksSpec.plain.varTypes Tryz.checked.prog ++ Tryz.f3.resultTypes.toList).any (Tryz.checked.prog.veiledRec ·))) = true := by kernel_rfl
theorem frameChecks_k31 : (Rows.frameChecksRow.veiledFits Tryz.checked.prog Tryz.f3.params.toList (Tryz.f3.params.toList ++ Rows.frameChecksSpec.plain.varTypes Tryz.checked.prog ++ Tryz.f3.resultTypes.toList)) = true := by kernel_rfl
set_option maxRecDepth 100000 in
theorem frameChecks_closed : joinedFacts Tryz.checked.prog 3 Tryz.f3 Rows.frameChecksSpec Rows.frameChecksRow = true := (and_t (and_t (and_t (and_t (and_t (and_t (and_t (and_t (and_t (and_t (and_t (and_t (and_t (and_t (and_t (and_t (and_t (and_t (and_t (and_t (and_t (and_t (and_t (and_t (and_t (and_t (and_t (and_t (and_t (and_t (and_t frameChecks_k0 frameChecks_k1) frameChecks_k2) frameChecks_k3) frameChecks_k4) frameChecks_k5) frameChecks_k6) frameChecks_k7) frameChecks_k8) frameChecks_k9) frameChecks_k10) frameChecks_k11) frameChecks_k12) frameChecks_k13) frameChecks_k14) frameChecks_k15) frameChecks_k16) frameChecks_k17) frameChecks_k18) frameChecks_k19) frameChecks_k20) frameChecks_k21) frameChecks_k22) frameChecks_k23) frameChecks_k24) frameChecks_k25) frameChecks_k26) frameChecks_k27) frameChecks_k28) frameChecks_k29) frameChecks_k30) frameChecks_k31)
theorem frameChecks_holds : Rows.FrameChecksSaid :=
 OpenClaim.holds_of_wide 3 Tryz.f3 rfl rfl rfl rfl rfl rfl rfl ⟨rfl, rfl, rfl, rfl, rfl⟩ rfl rfl rfl rfl rfl (by kernel_rfl) Tryz.func3 frameChecks_closed
  (of_decide_eq_true (by kernel_rfl)) (by unfold Func.isWrapper; first | (rw [if_pos (by decide +kernel)]; kernel_rfl) | (rw [if_neg (by decide +kernel)]; exact ⟨rfl, rfl⟩))
  (fun os started H enc _ => frameChecks_lifted os started H enc)
theorem frameChecks_card : Rows.FrameChecksCardSaid :=
 Claim7.holds_tied_plain_at .later [] [.data, .pinned] true (true, "c004779d49af939d365115cfeea8b2371c21d70dc2632bd7aee8ccfeeda3bb18") false frameChecks_holds (fun _ h => by cases h) (by kernel_rfl) (fun _ h => by cases h) frameChecks_row_tie rfl ⟨rfl, rfl⟩ (by kernel_rfl) rfl
  (fun f fn hf hfn => by
   obtain rfl : f = 3 := Option.some.inj ((show Tryz.prog.funcNamed "catchword/catchwordlaw14.FrameChecks" = some 3 by kernel_rfl).symm.trans hf) |>.symm
   obtain rfl : fn = Tryz.f3 := (Option.some.inj (Tryz.func3.symm.trans hfn)).symm
   exact ⟨by kernel_rfl, fun j t ht => by
    have hp : Tryz.f3.params = #[26, 26] := by kernel_rfl
    rw [hp] at ht
    have hm : t ∈ [26, 26] := by simpa using Array.mem_of_getElem? ht
    have hall : ([26, 26].all fun u => !Tryz.prog.wantsStandIn u) = true := by kernel_rfl
    exact (show Tryz.prog.wantsStandIn t = false by simpa using List.all_eq_true.1 hall t hm)⟩)
  (by kernel_rfl)
end Go.Proofs.YtedaacdjoddnaaaGreatDoor
end
