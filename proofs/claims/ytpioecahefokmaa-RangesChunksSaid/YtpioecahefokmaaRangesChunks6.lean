/- The law RangesChunks returns true for every input; each argument reads behind the call as it read before. No condition. -/
import Derived.Test.YtpioecahefokmaaRangesChunks5
import Derived.Test.YtpioecahefokmaaRangesChunks4
import Derived.ProofKit
import Derived.OpenShut
import Derived.ChangeCalls
import Derived.Test.YtpioecahefokmaaRows
import Derived.JoinedCond
set_option linter.unusedSimpArgs false
set_option linter.unusedVariables false
section
set_option maxRecDepth 4000
namespace Go.AB
open Go
/-- catchword/catchwordlaw35.works -/
def ir_works35 : IC :=
 (.seq (.reg none [i1 0 (.mov false (.c (.bool false)))] [])
 (.seq (.reg none [i1 8 (.buildSl 1 3 [.int .u8 0, .int .u8 0, .int .u8 0] [(0, 1, (.c (.int .u8 97))), (1, 1, (.c (.int .u8 98))), (2, 1, (.c (.int .u8 99)))]),
 i1 9 (.cvtRow (.t 8)),
 i1 10 (.call 82 [(.t 9)]),
 mv 1 10] [1])
 (.seq (.reg none [i1 12 (.call 46 [(.c (.int .i64 9))]),
 i1 11 (.movT (.t 12)),
 i1 13 (.extract (.t 11) 0),
 i1 14 (.extract (.t 11) 1),
 mv 2 13,
 mv 3 14] [1, 2])
 (.seq (.reg none [mv 15 2,
 i1 16 (.build [.int .i64 0, .int .i64 0] [(0, 1, (.c (.int .i64 3))), (1, 1, (.c (.int .i64 20)))]),
 i1 17 (.buildSl 2 1 [.int .i64 0, .int .i64 0] [(0, 2, (.t 16))]),
 i1 18 (.call 48 [(.t 15), (.t 17)]),
 mt 4 18] [1, 4])
 (.seq (.reg none [i1 19 (.build [.int .i64 0, .int .i64 0, .int .i64 0, .int .i64 0, .int .i64 0, .int .i64 0, .int .i64 0] [(4, 1, (.c (.int .i64 2000))), (6, 1, (.c (.int .i64 3000))), (0, 1, (.c (.int .i64 3100)))]),
 i1 20 (.call 38 [(.t 19)]),
 mt 5 20] [1, 4, 5])
 (.seq (.reg none [i1 21 (.build [.int .i64 0, .int .i64 0, .sl true 1 0 []] [(0, 1, (.c (.int .i64 1))), (1, 1, (.c (.int .i64 200)))]),
 i1 22 (.buildSl 3 1 [.int .i64 0, .int .i64 0, .sl true 1 0 []] [(0, 3, (.t 21))]),
 i1 23 (.build [.int .i64 0, .int .i64 0, .sl true 3 0 [], .int .i64 0, .int .i64 0, .int .i64 0, .sl true 1 0 []] [(1, 1, (.c (.int .i64 500))), (2, 1, (.t 22))]),
 i1 6 (.allocL [.int .i64 0, .int .i64 0, .sl true 3 0 [], .int .i64 0, .int .i64 0, .int .i64 0, .sl true 1 0 []]),
 i0 (.store 7 (.t 6) (.t 23))] [1, 4, 5, 6])
 (.seq (.reg none [i1 24 (.load 7 true (.t 6)),
 i1 25 (.build [.int .i64 0, .int .i64 0, .int .i64 0, .int .i64 0, .int .i64 0, .int .i64 0, .int .i64 0] []),
 i1 26 (.call 42 [(.t 24), (.t 25), (.c (.int .i64 0))]),
 mt 7 26] [1, 4, 5, 7])
 (.seq (.reg (some 29) [i1 27 (.call 44 [(.c (.int .i64 130)), (.c (.int .i64 64)), (.c (.int .i64 150))]),
 i1 28 (.build [.int .i64 0, .int .i64 0] [(0, 1, (.c (.int .i64 128))), (1, 1, (.c (.int .i64 150)))]),
 i1 29 (.eqA 2 false (.t 27) (.t 28)),
 mv 30 29,
 mvg 31 1 30 true,
 i1g 32 30 true (.build [.int .i64 0, .int .i64 0] [(0, 1, (.c (.int .i64 0))), (1, 1, (.c (.int .i64 3)))]),
 i1g 33 30 true (.buildSl 2 1 [.int .i64 0, .int .i64 0] [(0, 2, (.t 32))]),
 i1g 34 30 true (.call 48 [(.t 31), (.t 33)]),
 i1g 35 30 true (.len 0 (.t 34)),
 i1g 36 30 true (.bin .eql (.t 35) (.c (.int .i64 0))),
 i1 37 (.pick (.t 30) (.t 36) (.c (.bool false))),
 mv 38 37,
 mvg 39 4 38 true,
 i1g 40 38 true (.build [.int .i64 0, .int .i64 0] [(0, 1, (.c (.int .i64 3))), (1, 1, (.c (.int .i64 9)))]),
 i1g 41 38 true (.buildSl 2 1 [.int .i64 0, .int .i64 0] [(0, 2, (.t 40))]),
 i1g 42 38 true (.call 37 [(.t 39), (.t 41)]),
 i1 43 (.pick (.t 38) (.t 42) (.c (.bool false))),
 mv 44 43,
 mvg 45 5 44 true,
 i1g 46 44 true (.build [.int .i64 0, .int .i64 0] [(0, 1, (.c (.int .i64 1024))), (1, 1, (.c (.int .i64 2000)))]),
 i1g 47 44 true (.build [.int .i64 0, .int .i64 0] [(0, 1, (.c (.int .i64 3000))), (1, 1, (.c (.int .i64 3100)))]),
 i1g 48 44 true (.buildSl 2 2 [.int .i64 0, .int .i64 0, .int .i64 0, .int .i64 0] [(0, 2, (.t 46)), (2, 2, (.t 47))]),
 i1g 49 44 true (.call 37 [(.t 45), (.t 48)]),
 i1 50 (.pick (.t 44) (.t 49) (.c (.bool false))),
 mv 51 50,
 mvg 52 7 51 true,
 i1g 53 51 true (.build [.int .i64 0, .int .i64 0] [(0, 1, (.c (.int .i64 500))), (1, 1, (.c (.int .i64 700)))]),
 i1g 54 51 true (.buildSl 2 1 [.int .i64 0, .int .i64 0] [(0, 2, (.t 53))]),
 i1g 55 51 true (.call 37 [(.t 52), (.t 54)]),
 i1 56 (.pick (.t 51) (.t 55) (.c (.bool false))),
 mv 0 56] [0])
 .ret))))))))
def res_works35 : List IRes := [⟨0, true, none⟩]
theorem is_works35 : fnIs Go.Proofs.Try.prog 40 57 res_works35 ir_works35 = true := by kernel_rfl


theorem SrcAt.sub {s0 s s' : Store} {B : Nat} {g : SrcG} (h : SrcAt s0 s B g) (k : Sub s s') : SrcAt s0 s' B g := by
  obtain ⟨h1, h2, M, es, h3, h4, h5, h6⟩ := h
  exact ⟨fun b o hb => k b o (h1 b o hb), h2, M, es, k _ _ h3, h4, k _ _ h5, fun p hp => by
    obtain ⟨n, b, cs, q1, q2, q3, q4⟩ := h6 p hp
    exact ⟨n, b, cs, q1, q2, k _ _ q3, q4⟩⟩
theorem same_fe {a : List api_Span} {s : Store} (h : a.length < 4611686018427387904) : FE Go.Proofs.Try.prog 37 [.sl false 2 a.length (flat a), .sl false 2 a.length (flat a)] s [.bool true] s := ref02_Same_fe (same_refl h)
theorem works35_fn {s : Store} {Q : List AV → Store → Prop} (hq : Q [.bool true] s) : FN Go.Proofs.Try.prog 40 [] s Q := by
  refine FN.weak (FN.of (draw_ok mix) is_works35 rfl (Nat.le_of_ble_eq_true rfl) ?_)
  rw [ir_works35, res_works35]
  simp -implicitDefEqProofs only [go_sem, start, startE, resVs, resV, resC, allV, retK, Nat.reduceBEq, Nat.reduceAdd, Nat.reduceMul, Nat.reduceLeDiff, Nat.reduceEqDiff, Nat.reduceBNe, Nat.ble_eq, UInt8.reduceToNat]
  refine source_Whole_fn (l := [97, 98, 99]) (by decide) ⟨_, wk_put, fun B s1 h1 => ?_⟩
  simp -implicitDefEqProofs only [go_sem, start, startE, resVs, resV, resC, allV, retK, Nat.reduceBEq, Nat.reduceAdd, Nat.reduceMul, Nat.reduceLeDiff, Nat.reduceEqDiff, Nat.reduceBNe, Nat.ble_eq, UInt8.reduceToNat]
  refine source_New_fn (by decide) fun B2 s2 h2 => ?_
  simp -implicitDefEqProofs only [go_sem, start, startE, resVs, resV, resC, allV, retK, Nat.reduceBEq, Nat.reduceAdd, Nat.reduceMul, Nat.reduceLeDiff, Nat.reduceEqDiff, Nat.reduceBNe, Nat.ble_eq, UInt8.reduceToNat]
  refine ranges_Missing_fn (l := [⟨3, 20⟩]) h2 ⟨_, wk_miss1, ?_⟩
  simp -implicitDefEqProofs only [go_sem, start, startE, resVs, resV, resC, allV, retK, Nat.reduceBEq, Nat.reduceAdd, Nat.reduceMul, Nat.reduceLeDiff, Nat.reduceEqDiff, Nat.reduceBNe, Nat.ble_eq, UInt8.reduceToNat]
  refine FE.app (ranges_Ahead_fe wk_ahead) ?_
  simp -implicitDefEqProofs only [go_sem, start, startE, resVs, resV, resC, allV, retK, Nat.reduceBEq, Nat.reduceAdd, Nat.reduceMul, Nat.reduceLeDiff, Nat.reduceEqDiff, Nat.reduceBNe, Nat.ble_eq, UInt8.reduceToNat]
  refine FE.app (ranges_Page_fe wk_page) ?_
  simp -implicitDefEqProofs only [go_sem, start, startE, resVs, resV, resC, allV, retK, Nat.reduceBEq, Nat.reduceAdd, Nat.reduceMul, Nat.reduceLeDiff, Nat.reduceEqDiff, Nat.reduceBNe, Nat.ble_eq, UInt8.reduceToNat]
  refine ⟨[.agg [.int .i64 128, .int .i64 150]], rfl, ranges_Chunk_fe wk_chunk, ?_⟩
  simp -implicitDefEqProofs only [go_sem, start, startE, resVs, resV, resC, allV, retK, Nat.reduceBEq, Nat.reduceAdd, Nat.reduceMul, Nat.reduceLeDiff, Nat.reduceEqDiff, Nat.reduceBNe, Nat.ble_eq, UInt8.reduceToNat]
  have h3 : SrcAt s s2 B ⟨3, [⟨0, 3⟩]⟩ := SrcAt.sub h1 h2.1
  rw [show ((128 : Int) == 128 && (150 : Int) == 150) = true from rfl]
  refine ⟨[slv []], rfl, fun _ => ⟨_, rfl, ranges_Missing_fn (l := [⟨0, 3⟩]) h3 ⟨_, wk_miss2, rfl, rfl⟩⟩, ?_⟩
  simp -implicitDefEqProofs only [go_sem, start, startE, resVs, resV, resC, allV, retK, Nat.reduceBEq, Nat.reduceAdd, Nat.reduceMul, Nat.reduceLeDiff, Nat.reduceEqDiff, Nat.reduceBNe, Nat.ble_eq, UInt8.reduceToNat]
  rw [show ((0 : Int) == 0) = true from rfl]
  refine ⟨[.bool true], rfl, fun _ => ⟨_, rfl, same_fe (a := [⟨3, 9⟩]) (by decide)⟩, ?_⟩
  simp -implicitDefEqProofs only [go_sem, start, startE, resVs, resV, resC, allV, retK, Nat.reduceBEq, Nat.reduceAdd, Nat.reduceMul, Nat.reduceLeDiff, Nat.reduceEqDiff, Nat.reduceBNe, Nat.ble_eq, UInt8.reduceToNat]
  refine ⟨[.bool true], rfl, fun _ => ⟨_, rfl, same_fe (a := [⟨1024, 2000⟩, ⟨3000, 3100⟩]) (by decide)⟩, ?_⟩
  simp -implicitDefEqProofs only [go_sem, start, startE, resVs, resV, resC, allV, retK, Nat.reduceBEq, Nat.reduceAdd, Nat.reduceMul, Nat.reduceLeDiff, Nat.reduceEqDiff, Nat.reduceBNe, Nat.ble_eq, UInt8.reduceToNat]
  refine ⟨[.bool true], rfl, fun _ => ⟨_, rfl, same_fe (a := [⟨500, 700⟩]) (by decide)⟩, ?_⟩
  simp -implicitDefEqProofs only [go_sem, start, startE, resVs, resV, resC, allV, retK, Nat.reduceBEq, Nat.reduceAdd, Nat.reduceMul, Nat.reduceLeDiff, Nat.reduceEqDiff, Nat.reduceBNe, Nat.ble_eq, UInt8.reduceToNat]
  exact ⟨s, h3.1, hq⟩
def law35_works : Option Bool := some true
theorem law35_works_fe {s : Store} {r : Bool} (h : law35_works = some r) : FE Go.Proofs.Try.prog 40 [] s [.bool r] s := by
  injection h with h; subst h
  exact works35_fn ⟨rfl, rfl⟩

end Go.AB
end

section
set_option maxRecDepth 4000
namespace Go.AB
open Go
/-- catchword/catchwordlaw35.RangesAhead -/
def law35_RangesAhead (l_0 : api_Lin) : Option (Bool) :=
  bnd (ranges_Ahead l_0) fun r1 =>
  bnd (ref35_Ahead l_0) fun r2 =>
  bnd (ref02_Same r1 r2) fun r3 =>
  bnd (whenB r3 false (law35_works)) fun r4 =>
  some (r3 && r4)
def ir_law35_RangesAhead : IC :=
 (.seq (.reg none [i1 1 (.boxL 7 (.t 0)),
 i1 2 (.mov false (.c (.bool false)))] [1])
 (.seq (.reg (some 9) [i1 3 (.load 7 true (.t 1)),
 i1 4 (.call 38 [(.t 3)]),
 i1 5 (.load 7 true (.t 1)),
 i1 6 (.call 39 [(.t 5)]),
 i1 7 (.call 37 [(.t 4), (.t 6)]),
 mv 8 7,
 i1g 9 8 true (.call 40 []),
 i1 10 (.pick (.t 8) (.t 9) (.c (.bool false))),
 mv 2 10] [2])
 .ret))
def res_law35_RangesAhead : List IRes := [⟨2, true, none⟩]
theorem is_law35_RangesAhead : fnIs Go.Proofs.Try.prog 7 11 res_law35_RangesAhead ir_law35_RangesAhead = true := by kernel_rfl
theorem law35_RangesAhead_fn {l_0} {s : Store} {Q : List AV → Store → Prop}  : ok (law35_RangesAhead l_0) (fun r => Q [.bool r] s) → FN Go.Proofs.Try.prog 7 [.agg [.int .i64 l_0.Length, .int .i64 l_0.HintAt, .int .i64 l_0.HintLength, .int .i64 l_0.FirstObject, .int .i64 l_0.FirstEnd, .int .i64 l_0.Pages, .int .i64 l_0.Main]] s Q := by
  intro h
  refine FN.of (draw_ok mix) is_law35_RangesAhead rfl (Nat.le_of_ble_eq_true rfl) ?_
  revert h
  rw [ir_law35_RangesAhead, res_law35_RangesAhead, law35_RangesAhead]
  repeat' (first
    | with_reducible exact tt_to
    | with_reducible refine and_to ?_ ?_
    | with_reducible exact im_and
    | with_reducible refine im_to ?_
    | with_reducible refine call_to (fun _ (h : ranges_Ahead l_0 = some _) => ranges_Ahead_fe h) (fun r1 => ?_)
    | with_reducible refine call_to_q (fun _ (h : ranges_Ahead l_0 = some _) => ranges_Ahead_fe h) (fun _ => rfl) (fun r1 => ?_)
    | with_reducible refine call_to (fun _ (h : ranges_Ahead l_0 = some _) => (by refine FE_cast ?_ (ranges_Ahead_fe h); simp -implicitDefEqProofs only [go_sem, start, startE, resVs, resV, resC, allV, retK, Nat.reduceBEq, Nat.reduceAdd, Nat.reduceMul, Nat.reduceLeDiff, Nat.reduceEqDiff, Nat.reduceBNe, Nat.ble_eq, UInt8.reduceToNat])) (fun r1 => ?_)
    | with_reducible refine call_to_q (fun _ (h : ranges_Ahead l_0 = some _) => (by refine FE_cast ?_ (ranges_Ahead_fe h); simp -implicitDefEqProofs only [go_sem, start, startE, resVs, resV, resC, allV, retK, Nat.reduceBEq, Nat.reduceAdd, Nat.reduceMul, Nat.reduceLeDiff, Nat.reduceEqDiff, Nat.reduceBNe, Nat.ble_eq, UInt8.reduceToNat])) (fun _ => rfl) (fun r1 => ?_)
    | with_reducible refine call_to (fun _ (h : ref35_Ahead l_0 = some _) => ref35_Ahead_fe h) (fun r2 => ?_)
    | with_reducible refine call_to_q (fun _ (h : ref35_Ahead l_0 = some _) => ref35_Ahead_fe h) (fun _ => rfl) (fun r2 => ?_)
    | with_reducible refine call_to (fun _ (h : ref35_Ahead l_0 = some _) => (by refine FE_cast ?_ (ref35_Ahead_fe h); simp -implicitDefEqProofs only [go_sem, start, startE, resVs, resV, resC, allV, retK, Nat.reduceBEq, Nat.reduceAdd, Nat.reduceMul, Nat.reduceLeDiff, Nat.reduceEqDiff, Nat.reduceBNe, Nat.ble_eq, UInt8.reduceToNat])) (fun r2 => ?_)
    | with_reducible refine call_to_q (fun _ (h : ref35_Ahead l_0 = some _) => (by refine FE_cast ?_ (ref35_Ahead_fe h); simp -implicitDefEqProofs only [go_sem, start, startE, resVs, resV, resC, allV, retK, Nat.reduceBEq, Nat.reduceAdd, Nat.reduceMul, Nat.reduceLeDiff, Nat.reduceEqDiff, Nat.reduceBNe, Nat.ble_eq, UInt8.reduceToNat])) (fun _ => rfl) (fun r2 => ?_)
    | with_reducible refine call_to (fun _ (h : ref02_Same r1 r2 = some _) => ref02_Same_fe h) (fun r3 => ?_)
    | with_reducible refine call_to_q (fun _ (h : ref02_Same r1 r2 = some _) => ref02_Same_fe h) (fun _ => rfl) (fun r3 => ?_)
    | with_reducible refine call_to (fun _ (h : ref02_Same r1 r2 = some _) => (by refine FE_cast ?_ (ref02_Same_fe h); simp -implicitDefEqProofs only [go_sem, start, startE, resVs, resV, resC, allV, retK, Nat.reduceBEq, Nat.reduceAdd, Nat.reduceMul, Nat.reduceLeDiff, Nat.reduceEqDiff, Nat.reduceBNe, Nat.ble_eq, UInt8.reduceToNat])) (fun r3 => ?_)
    | with_reducible refine call_to_q (fun _ (h : ref02_Same r1 r2 = some _) => (by refine FE_cast ?_ (ref02_Same_fe h); simp -implicitDefEqProofs only [go_sem, start, startE, resVs, resV, resC, allV, retK, Nat.reduceBEq, Nat.reduceAdd, Nat.reduceMul, Nat.reduceLeDiff, Nat.reduceEqDiff, Nat.reduceBNe, Nat.ble_eq, UInt8.reduceToNat])) (fun _ => rfl) (fun r3 => ?_)
    | with_reducible refine call_to_g rfl (fun _ (h : law35_works = some _) => law35_works_fe h) (fun _ => rfl) (fun r4 => ?_)
    | with_reducible refine call_to_g rfl (fun _ (h : law35_works = some _) => (by refine FE_cast ?_ (law35_works_fe h); simp -implicitDefEqProofs only [go_sem, start, startE, resVs, resV, resC, allV, retK, Nat.reduceBEq, Nat.reduceAdd, Nat.reduceMul, Nat.reduceLeDiff, Nat.reduceEqDiff, Nat.reduceBNe, Nat.ble_eq, UInt8.reduceToNat])) (fun _ => rfl) (fun r4 => ?_)
    | simp -implicitDefEqProofs only [go_sem, start, startE, resVs, resV, resC, allV, retK, Nat.reduceBEq, Nat.reduceAdd, Nat.reduceMul, Nat.reduceLeDiff, Nat.reduceEqDiff, Nat.reduceBNe, Nat.ble_eq, UInt8.reduceToNat])
theorem law35_RangesAhead_fe {l_0} {s : Store} {r : Bool}  (h : law35_RangesAhead l_0 = some r) : FE Go.Proofs.Try.prog 7 [.agg [.int .i64 l_0.Length, .int .i64 l_0.HintAt, .int .i64 l_0.HintLength, .int .i64 l_0.FirstObject, .int .i64 l_0.FirstEnd, .int .i64 l_0.Pages, .int .i64 l_0.Main]] s [.bool r] s := law35_RangesAhead_fn   ⟨r, h, rfl, rfl⟩
/-- catchword/catchwordlaw35.RangesPages -/
def law35_RangesPages (h_0 : api_Hints) (l_1 : api_Lin) (p_2 : Int) : Option (Bool) :=
  bnd (ref28_Few h_0) fun r1 =>
  if !r1 then
    bnd (law35_works) fun r2 =>
    some r2
  else
    bnd (ranges_Page h_0 l_1 p_2) fun r3 =>
    bnd (ref35_Page h_0 l_1 p_2) fun r4 =>
    bnd (ref02_Same r3 r4) fun r5 =>
    bnd (whenB r5 false (law35_works)) fun r6 =>
    some (r5 && r6)
def ir_law35_RangesPages : IC :=
 (.seq (.reg none [i1 3 (.boxL 7 (.t 0)),
 i1 4 (.boxL 7 (.t 1)),
 i1 6 (.mov false (.c (.bool false)))] [2, 3, 4])
 (.seq (.seq (.reg none [i1 7 (.load 7 true (.t 3)),
 i1 8 (.call 41 [(.t 7)]),
 i1 9 (.un .not (.t 8))] [2, 3, 4, 9])
 (.cond (.t 9) (.seq (.reg none [i1 10 (.call 40 []),
 mv 6 10] [6])
 .ret)
 .skip))
 (.seq (.reg (some 13) [i1 11 (.load 7 true (.t 3)),
 i1 12 (.load 7 true (.t 4)),
 mv 13 2,
 i1 14 (.call 42 [(.t 11), (.t 12), (.t 13)]),
 i1 15 (.load 7 true (.t 3)),
 i1 16 (.load 7 true (.t 4)),
 mv 17 2,
 i1 18 (.call 43 [(.t 15), (.t 16), (.t 17)]),
 i1 19 (.call 37 [(.t 14), (.t 18)]),
 mv 20 19,
 i1g 21 20 true (.call 40 []),
 i1 22 (.pick (.t 20) (.t 21) (.c (.bool false))),
 mv 6 22] [6])
 .ret)))
def res_law35_RangesPages : List IRes := [⟨6, true, none⟩]
theorem is_law35_RangesPages : fnIs Go.Proofs.Try.prog 8 23 res_law35_RangesPages ir_law35_RangesPages = true := by kernel_rfl
theorem law35_RangesPages_fn {h_0 l_1 p_2} {s : Store} {Q : List AV → Store → Prop}  : ok (law35_RangesPages h_0 l_1 p_2) (fun r => Q [.bool r] s) → FN Go.Proofs.Try.prog 8 [.agg [.int .i64 h_0.FirstObject, .int .i64 h_0.FirstAt, .sl false 3 h_0.Pages.length (flat h_0.Pages), .int .i64 h_0.SharedObject, .int .i64 h_0.SharedAt, .int .i64 h_0.SharedFirst, .sl false 1 h_0.Shared.length (flat h_0.Shared)], .agg [.int .i64 l_1.Length, .int .i64 l_1.HintAt, .int .i64 l_1.HintLength, .int .i64 l_1.FirstObject, .int .i64 l_1.FirstEnd, .int .i64 l_1.Pages, .int .i64 l_1.Main], .int .i64 p_2] s Q := by
  intro h
  refine FN.of (draw_ok mix) is_law35_RangesPages rfl (Nat.le_of_ble_eq_true rfl) ?_
  revert h
  rw [ir_law35_RangesPages, res_law35_RangesPages, law35_RangesPages]
  repeat' (first
    | with_reducible exact tt_to
    | with_reducible refine and_to ?_ ?_
    | with_reducible exact im_and
    | with_reducible refine im_to ?_
    | with_reducible refine call_to (fun _ (h : ref28_Few h_0 = some _) => ref28_Few_fe h) (fun r1 => ?_)
    | with_reducible refine call_to_q (fun _ (h : ref28_Few h_0 = some _) => ref28_Few_fe h) (fun _ => rfl) (fun r1 => ?_)
    | with_reducible refine call_to (fun _ (h : ref28_Few h_0 = some _) => (by refine FE_cast ?_ (ref28_Few_fe h); simp -implicitDefEqProofs only [go_sem, start, startE, resVs, resV, resC, allV, retK, Nat.reduceBEq, Nat.reduceAdd, Nat.reduceMul, Nat.reduceLeDiff, Nat.reduceEqDiff, Nat.reduceBNe, Nat.ble_eq, UInt8.reduceToNat])) (fun r1 => ?_)
    | with_reducible refine call_to_q (fun _ (h : ref28_Few h_0 = some _) => (by refine FE_cast ?_ (ref28_Few_fe h); simp -implicitDefEqProofs only [go_sem, start, startE, resVs, resV, resC, allV, retK, Nat.reduceBEq, Nat.reduceAdd, Nat.reduceMul, Nat.reduceLeDiff, Nat.reduceEqDiff, Nat.reduceBNe, Nat.ble_eq, UInt8.reduceToNat])) (fun _ => rfl) (fun r1 => ?_)
    | ((fail_if_success (have _x := r2)); with_reducible refine call_to (fun _ (h : law35_works = some _) => law35_works_fe h) (fun r2 => ?_))
    | ((fail_if_success (have _x := r2)); with_reducible refine call_to_q (fun _ (h : law35_works = some _) => law35_works_fe h) (fun _ => rfl) (fun r2 => ?_))
    | ((fail_if_success (have _x := r2)); with_reducible refine call_to (fun _ (h : law35_works = some _) => (by refine FE_cast ?_ (law35_works_fe h); simp -implicitDefEqProofs only [go_sem, start, startE, resVs, resV, resC, allV, retK, Nat.reduceBEq, Nat.reduceAdd, Nat.reduceMul, Nat.reduceLeDiff, Nat.reduceEqDiff, Nat.reduceBNe, Nat.ble_eq, UInt8.reduceToNat])) (fun r2 => ?_))
    | ((fail_if_success (have _x := r2)); with_reducible refine call_to_q (fun _ (h : law35_works = some _) => (by refine FE_cast ?_ (law35_works_fe h); simp -implicitDefEqProofs only [go_sem, start, startE, resVs, resV, resC, allV, retK, Nat.reduceBEq, Nat.reduceAdd, Nat.reduceMul, Nat.reduceLeDiff, Nat.reduceEqDiff, Nat.reduceBNe, Nat.ble_eq, UInt8.reduceToNat])) (fun _ => rfl) (fun r2 => ?_))
    | with_reducible refine call_to (fun _ (h : ranges_Page h_0 l_1 p_2 = some _) => ranges_Page_fe h) (fun r3 => ?_)
    | with_reducible refine call_to_q (fun _ (h : ranges_Page h_0 l_1 p_2 = some _) => ranges_Page_fe h) (fun _ => rfl) (fun r3 => ?_)
    | with_reducible refine call_to (fun _ (h : ranges_Page h_0 l_1 p_2 = some _) => (by refine FE_cast ?_ (ranges_Page_fe h); simp -implicitDefEqProofs only [go_sem, start, startE, resVs, resV, resC, allV, retK, Nat.reduceBEq, Nat.reduceAdd, Nat.reduceMul, Nat.reduceLeDiff, Nat.reduceEqDiff, Nat.reduceBNe, Nat.ble_eq, UInt8.reduceToNat])) (fun r3 => ?_)
    | with_reducible refine call_to_q (fun _ (h : ranges_Page h_0 l_1 p_2 = some _) => (by refine FE_cast ?_ (ranges_Page_fe h); simp -implicitDefEqProofs only [go_sem, start, startE, resVs, resV, resC, allV, retK, Nat.reduceBEq, Nat.reduceAdd, Nat.reduceMul, Nat.reduceLeDiff, Nat.reduceEqDiff, Nat.reduceBNe, Nat.ble_eq, UInt8.reduceToNat])) (fun _ => rfl) (fun r3 => ?_)
    | with_reducible refine call_to (fun _ (h : ref35_Page h_0 l_1 p_2 = some _) => ref35_Page_fe h) (fun r4 => ?_)
    | with_reducible refine call_to_q (fun _ (h : ref35_Page h_0 l_1 p_2 = some _) => ref35_Page_fe h) (fun _ => rfl) (fun r4 => ?_)
    | with_reducible refine call_to (fun _ (h : ref35_Page h_0 l_1 p_2 = some _) => (by refine FE_cast ?_ (ref35_Page_fe h); simp -implicitDefEqProofs only [go_sem, start, startE, resVs, resV, resC, allV, retK, Nat.reduceBEq, Nat.reduceAdd, Nat.reduceMul, Nat.reduceLeDiff, Nat.reduceEqDiff, Nat.reduceBNe, Nat.ble_eq, UInt8.reduceToNat])) (fun r4 => ?_)
    | with_reducible refine call_to_q (fun _ (h : ref35_Page h_0 l_1 p_2 = some _) => (by refine FE_cast ?_ (ref35_Page_fe h); simp -implicitDefEqProofs only [go_sem, start, startE, resVs, resV, resC, allV, retK, Nat.reduceBEq, Nat.reduceAdd, Nat.reduceMul, Nat.reduceLeDiff, Nat.reduceEqDiff, Nat.reduceBNe, Nat.ble_eq, UInt8.reduceToNat])) (fun _ => rfl) (fun r4 => ?_)
    | with_reducible refine call_to (fun _ (h : ref02_Same r3 r4 = some _) => ref02_Same_fe h) (fun r5 => ?_)
    | with_reducible refine call_to_q (fun _ (h : ref02_Same r3 r4 = some _) => ref02_Same_fe h) (fun _ => rfl) (fun r5 => ?_)
    | with_reducible refine call_to (fun _ (h : ref02_Same r3 r4 = some _) => (by refine FE_cast ?_ (ref02_Same_fe h); simp -implicitDefEqProofs only [go_sem, start, startE, resVs, resV, resC, allV, retK, Nat.reduceBEq, Nat.reduceAdd, Nat.reduceMul, Nat.reduceLeDiff, Nat.reduceEqDiff, Nat.reduceBNe, Nat.ble_eq, UInt8.reduceToNat])) (fun r5 => ?_)
    | with_reducible refine call_to_q (fun _ (h : ref02_Same r3 r4 = some _) => (by refine FE_cast ?_ (ref02_Same_fe h); simp -implicitDefEqProofs only [go_sem, start, startE, resVs, resV, resC, allV, retK, Nat.reduceBEq, Nat.reduceAdd, Nat.reduceMul, Nat.reduceLeDiff, Nat.reduceEqDiff, Nat.reduceBNe, Nat.ble_eq, UInt8.reduceToNat])) (fun _ => rfl) (fun r5 => ?_)
    | ((fail_if_success (have _x := r6)); with_reducible refine call_to_g rfl (fun _ (h : law35_works = some _) => law35_works_fe h) (fun _ => rfl) (fun r6 => ?_))
    | ((fail_if_success (have _x := r6)); with_reducible refine call_to_g rfl (fun _ (h : law35_works = some _) => (by refine FE_cast ?_ (law35_works_fe h); simp -implicitDefEqProofs only [go_sem, start, startE, resVs, resV, resC, allV, retK, Nat.reduceBEq, Nat.reduceAdd, Nat.reduceMul, Nat.reduceLeDiff, Nat.reduceEqDiff, Nat.reduceBNe, Nat.ble_eq, UInt8.reduceToNat])) (fun _ => rfl) (fun r6 => ?_))
    | simp -implicitDefEqProofs only [go_sem, start, startE, resVs, resV, resC, allV, retK, Nat.reduceBEq, Nat.reduceAdd, Nat.reduceMul, Nat.reduceLeDiff, Nat.reduceEqDiff, Nat.reduceBNe, Nat.ble_eq, UInt8.reduceToNat])
theorem law35_RangesPages_fe {h_0 l_1 p_2} {s : Store} {r : Bool}  (h : law35_RangesPages h_0 l_1 p_2 = some r) : FE Go.Proofs.Try.prog 8 [.agg [.int .i64 h_0.FirstObject, .int .i64 h_0.FirstAt, .sl false 3 h_0.Pages.length (flat h_0.Pages), .int .i64 h_0.SharedObject, .int .i64 h_0.SharedAt, .int .i64 h_0.SharedFirst, .sl false 1 h_0.Shared.length (flat h_0.Shared)], .agg [.int .i64 l_1.Length, .int .i64 l_1.HintAt, .int .i64 l_1.HintLength, .int .i64 l_1.FirstObject, .int .i64 l_1.FirstEnd, .int .i64 l_1.Pages, .int .i64 l_1.Main], .int .i64 p_2] s [.bool r] s := law35_RangesPages_fn   ⟨r, h, rfl, rfl⟩
/-- catchword/catchwordlaw35.RangesChunks -/
def law35_RangesChunks (at_0 : Int) (size_1 : Int) (total_2 : Int) : Option (Bool) :=
  bnd (ranges_Chunk at_0 size_1 total_2) fun r1 =>
  bnd (ref35_Chunk at_0 size_1 total_2) fun r2 =>
  if ((r1.From == r2.From) && ((r1.To == r2.To) && true)) != true then
    some false
  else
    if (((decide (at_0 < 0)) || (decide (at_0 ≥ total_2))) || (decide (size_1 < 1))) || (decide (total_2 > 2147483647)) then
      bnd (whenB (((r1.From == 0) && ((r1.To == 0) && true)) != false) false (law35_works)) fun r3 =>
      some ((((r1.From == 0) && ((r1.To == 0) && true)) != false) && r3)
    else
      need (((decide (r1.From ≤ at_0)) && (decide (at_0 < r1.To))) = true → size_1 ≠ 0) <|
      bnd (whenB ((((((decide (r1.From ≤ at_0)) && (decide (at_0 < r1.To))) && ((Int.tmod r1.From size_1) == 0)) && (decide (r1.To ≤ total_2))) && ((r1.To == total_2) || ((w64 (r1.To - r1.From)) == size_1))) && (decide (w64 (r1.To - r1.From) ≤ size_1))) false (law35_works)) fun r4 =>
      some (((((((decide (r1.From ≤ at_0)) && (decide (at_0 < r1.To))) && ((Int.tmod r1.From size_1) == 0)) && (decide (r1.To ≤ total_2))) && ((r1.To == total_2) || ((w64 (r1.To - r1.From)) == size_1))) && (decide (w64 (r1.To - r1.From) ≤ size_1))) && r4)
def ir_law35_RangesChunks : IC :=
 (.seq (.reg none [i1 6 (.mov false (.c (.bool false)))] [0, 1, 2])
 (.seq (.reg none [mv 8 0,
 mv 9 1,
 mv 10 2,
 i1 11 (.call 44 [(.t 8), (.t 9), (.t 10)]),
 i1 7 (.allocL [.int .i64 0, .int .i64 0]),
 i0 (.store 2 (.t 7) (.t 11))] [0, 1, 2, 7])
 (.seq (.seq (.reg (some 6) [i1 12 (.load 2 true (.t 7)),
 mv 13 0,
 mv 14 1,
 mv 15 2,
 i1 16 (.call 45 [(.t 13), (.t 14), (.t 15)]),
 i1 17 (.eqA 2 true (.t 12) (.t 16))] [0, 1, 2, 7, 17])
 (.cond (.t 17) (.seq (.reg none [i1 6 (.mov false (.c (.bool false)))] [6])
 .ret)
 .skip))
 (.seq (.seq (.reg none [mv 18 0,
 i1 19 (.bin .lss (.t 18) (.c (.int .i64 0))),
 mv 20 19,
 mvg 21 0 20 false,
 mvg 22 2 20 false,
 i1g 23 20 false (.bin .geq (.t 21) (.t 22)),
 i1 24 (.pick (.t 20) (.c (.bool true)) (.t 23)),
 mv 25 24,
 mvg 26 1 25 false,
 i1g 27 25 false (.bin .lss (.t 26) (.c (.int .i64 1))),
 i1 28 (.pick (.t 25) (.c (.bool true)) (.t 27)),
 mv 29 28,
 mvg 30 2 29 false,
 i1g 31 29 false (.bin .gtr (.t 30) (.c (.int .i64 2147483647))),
 i1 32 (.pick (.t 29) (.c (.bool true)) (.t 31))] [0, 1, 2, 7, 32])
 (.cond (.t 32) (.seq (.reg (some 5) [i1 33 (.load 2 true (.t 7)),
 i1 34 (.build [.int .i64 0, .int .i64 0] []),
 i1 35 (.eqA 2 false (.t 33) (.t 34)),
 mv 36 35,
 i1g 37 36 true (.call 40 []),
 i1 38 (.pick (.t 36) (.t 37) (.c (.bool false))),
 mv 6 38] [6])
 .ret)
 .skip))
 (.seq (.reg (some 49) [i1 39 (.fieldAddr 0 (.t 7)),
 i1 40 (.load 1 false (.t 39)),
 mv 41 0,
 i1 42 (.bin .leq (.t 40) (.t 41)),
 mv 43 42,
 mvg 44 0 43 true,
 i1g 45 43 true (.fieldAddr 1 (.t 7)),
 i1g 46 43 true (.load 1 false (.t 45)),
 i1g 47 43 true (.bin .lss (.t 44) (.t 46)),
 i1 48 (.pick (.t 43) (.t 47) (.c (.bool false))),
 mv 49 48,
 i1g 50 49 true (.fieldAddr 0 (.t 7)),
 i1g 51 49 true (.load 1 false (.t 50)),
 mvg 52 1 49 true,
 i1g 53 49 true (.bin .rem (.t 51) (.t 52)),
 i1g 54 49 true (.bin .eql (.t 53) (.c (.int .i64 0))),
 i1 55 (.pick (.t 49) (.t 54) (.c (.bool false))),
 mv 56 55,
 i1g 57 56 true (.fieldAddr 1 (.t 7)),
 i1g 58 56 true (.load 1 false (.t 57)),
 mvg 59 2 56 true,
 i1g 60 56 true (.bin .leq (.t 58) (.t 59)),
 i1 61 (.pick (.t 56) (.t 60) (.c (.bool false))),
 mv 62 61,
 i1g 63 62 true (.fieldAddr 1 (.t 7)),
 i1g 64 62 true (.load 1 false (.t 63)),
 mvg 65 2 62 true,
 i1g 66 62 true (.bin .eql (.t 64) (.t 65)),
 mvg 67 66 62 true,
 i1g 68 67 false (.fieldAddr 1 (.t 7)),
 i1g 69 67 false (.load 1 false (.t 68)),
 i1g 70 67 false (.fieldAddr 0 (.t 7)),
 i1g 71 67 false (.load 1 false (.t 70)),
 i1g 72 67 false (.bin .sub (.t 69) (.t 71)),
 mvg 73 1 67 false,
 i1g 74 67 false (.bin .eql (.t 72) (.t 73)),
 i1g 75 62 true (.pick (.t 67) (.c (.bool true)) (.t 74)),
 i1 76 (.pick (.t 62) (.t 75) (.c (.bool false))),
 mv 77 76,
 i1g 78 77 true (.fieldAddr 1 (.t 7)),
 i1g 79 77 true (.load 1 false (.t 78)),
 i1g 80 77 true (.fieldAddr 0 (.t 7)),
 i1g 81 77 true (.load 1 false (.t 80)),
 i1g 82 77 true (.bin .sub (.t 79) (.t 81)),
 mvg 83 1 77 true,
 i1g 84 77 true (.bin .leq (.t 82) (.t 83)),
 i1 85 (.pick (.t 77) (.t 84) (.c (.bool false))),
 mv 86 85,
 i1g 87 86 true (.call 40 []),
 i1 88 (.pick (.t 86) (.t 87) (.c (.bool false))),
 mv 6 88] [6])
 .ret)))))
def res_law35_RangesChunks : List IRes := [⟨6, true, none⟩]
theorem is_law35_RangesChunks : fnIs Go.Proofs.Try.prog 9 89 res_law35_RangesChunks ir_law35_RangesChunks = true := by kernel_rfl
theorem law35_RangesChunks_fn {at_0 size_1 total_2} {s : Store} {Q : List AV → Store → Prop}  : ok (law35_RangesChunks at_0 size_1 total_2) (fun r => Q [.bool r] s) → FN Go.Proofs.Try.prog 9 [.int .i64 at_0, .int .i64 size_1, .int .i64 total_2] s Q := by
  intro h
  refine FN.of (draw_ok mix) is_law35_RangesChunks rfl (Nat.le_of_ble_eq_true rfl) ?_
  revert h
  rw [ir_law35_RangesChunks, res_law35_RangesChunks, law35_RangesChunks]
  repeat' (first
    | with_reducible exact tt_to
    | with_reducible refine and_to ?_ ?_
    | with_reducible exact im_and
    | with_reducible refine im_to ?_
    | with_reducible refine call_to (fun _ (h : ranges_Chunk at_0 size_1 total_2 = some _) => ranges_Chunk_fe h) (fun r1 => ?_)
    | with_reducible refine call_to_q (fun _ (h : ranges_Chunk at_0 size_1 total_2 = some _) => ranges_Chunk_fe h) (fun _ => rfl) (fun r1 => ?_)
    | with_reducible refine call_to (fun _ (h : ranges_Chunk at_0 size_1 total_2 = some _) => (by refine FE_cast ?_ (ranges_Chunk_fe h); simp -implicitDefEqProofs only [go_sem, start, startE, resVs, resV, resC, allV, retK, Nat.reduceBEq, Nat.reduceAdd, Nat.reduceMul, Nat.reduceLeDiff, Nat.reduceEqDiff, Nat.reduceBNe, Nat.ble_eq, UInt8.reduceToNat])) (fun r1 => ?_)
    | with_reducible refine call_to_q (fun _ (h : ranges_Chunk at_0 size_1 total_2 = some _) => (by refine FE_cast ?_ (ranges_Chunk_fe h); simp -implicitDefEqProofs only [go_sem, start, startE, resVs, resV, resC, allV, retK, Nat.reduceBEq, Nat.reduceAdd, Nat.reduceMul, Nat.reduceLeDiff, Nat.reduceEqDiff, Nat.reduceBNe, Nat.ble_eq, UInt8.reduceToNat])) (fun _ => rfl) (fun r1 => ?_)
    | with_reducible refine call_to (fun _ (h : ref35_Chunk at_0 size_1 total_2 = some _) => ref35_Chunk_fe h) (fun r2 => ?_)
    | with_reducible refine call_to_q (fun _ (h : ref35_Chunk at_0 size_1 total_2 = some _) => ref35_Chunk_fe h) (fun _ => rfl) (fun r2 => ?_)
    | with_reducible refine call_to (fun _ (h : ref35_Chunk at_0 size_1 total_2 = some _) => (by refine FE_cast ?_ (ref35_Chunk_fe h); simp -implicitDefEqProofs only [go_sem, start, startE, resVs, resV, resC, allV, retK, Nat.reduceBEq, Nat.reduceAdd, Nat.reduceMul, Nat.reduceLeDiff, Nat.reduceEqDiff, Nat.reduceBNe, Nat.ble_eq, UInt8.reduceToNat])) (fun r2 => ?_)
    | with_reducible refine call_to_q (fun _ (h : ref35_Chunk at_0 size_1 total_2 = some _) => (by refine FE_cast ?_ (ref35_Chunk_fe h); simp -implicitDefEqProofs only [go_sem, start, startE, resVs, resV, resC, allV, retK, Nat.reduceBEq, Nat.reduceAdd, Nat.reduceMul, Nat.reduceLeDiff, Nat.reduceEqDiff, Nat.reduceBNe, Nat.ble_eq, UInt8.reduceToNat])) (fun _ => rfl) (fun r2 => ?_)
    | ((fail_if_success (have _x := r3)); with_reducible refine call_to_g rfl (fun _ (h : law35_works = some _) => law35_works_fe h) (fun _ => rfl) (fun r3 => ?_))
    | ((fail_if_success (have _x := r3)); with_reducible refine call_to_g rfl (fun _ (h : law35_works = some _) => (by refine FE_cast ?_ (law35_works_fe h); simp -implicitDefEqProofs only [go_sem, start, startE, resVs, resV, resC, allV, retK, Nat.reduceBEq, Nat.reduceAdd, Nat.reduceMul, Nat.reduceLeDiff, Nat.reduceEqDiff, Nat.reduceBNe, Nat.ble_eq, UInt8.reduceToNat])) (fun _ => rfl) (fun r3 => ?_))
    | ((fail_if_success (have _x := r4)); with_reducible refine call_to_g rfl (fun _ (h : law35_works = some _) => law35_works_fe h) (fun _ => rfl) (fun r4 => ?_))
    | ((fail_if_success (have _x := r4)); with_reducible refine call_to_g rfl (fun _ (h : law35_works = some _) => (by refine FE_cast ?_ (law35_works_fe h); simp -implicitDefEqProofs only [go_sem, start, startE, resVs, resV, resC, allV, retK, Nat.reduceBEq, Nat.reduceAdd, Nat.reduceMul, Nat.reduceLeDiff, Nat.reduceEqDiff, Nat.reduceBNe, Nat.ble_eq, UInt8.reduceToNat])) (fun _ => rfl) (fun r4 => ?_))
    | simp -implicitDefEqProofs only [go_sem, start, startE, resVs, resV, resC, allV, retK, Nat.reduceBEq, Nat.reduceAdd, Nat.reduceMul, Nat.reduceLeDiff, Nat.reduceEqDiff, Nat.reduceBNe, Nat.ble_eq, UInt8.reduceToNat])
theorem law35_RangesChunks_fe {at_0 size_1 total_2} {s : Store} {r : Bool}  (h : law35_RangesChunks at_0 size_1 total_2 = some r) : FE Go.Proofs.Try.prog 9 [.int .i64 at_0, .int .i64 size_1, .int .i64 total_2] s [.bool r] s := law35_RangesChunks_fn   ⟨r, h, rfl, rfl⟩
end Go.AB
end

section
namespace Go.AB
open Go
theorem law35_RangesChunks_true {a z t : Int} (ha : -9223372036854775808 ≤ a ∧ a ≤ 9223372036854775807) (hz : -9223372036854775808 ≤ z ∧ z ≤ 9223372036854775807) (ht : -9223372036854775808 ≤ t ∧ t ≤ 9223372036854775807) : law35_RangesChunks a z t = some true := by
  obtain ⟨x, h1, h2, h3, h4⟩ := chunk_eq ha hz ht
  unfold law35_RangesChunks
  refine bnd_of h1 (bnd_of h2 (if_not (by simp) ?_))
  by_cases hc : a < 0 ∨ a ≥ t ∨ z < 1 ∨ t > 2147483647
  · obtain rfl := h3 hc
    refine if_of (by simp; omega) ?_
    exact bnd_of (a := true) rfl rfl
  · obtain ⟨q1, q2, q3, q4, q5, q6⟩ := h4 (by omega) (by omega) (by omega) (by omega)
    have e : ((((((decide (x.From ≤ a)) && (decide (a < x.To))) && ((Int.tmod x.From z) == 0)) && (decide (x.To ≤ t))) && ((x.To == t) || ((w64 (x.To - x.From)) == z))) && (decide (w64 (x.To - x.From) ≤ z))) = true := by
      simp only [Bool.and_eq_true, Bool.or_eq_true, decide_eq_true_eq, beq_iff_eq]
      exact ⟨⟨⟨⟨⟨q1, q2⟩, q3⟩, q4⟩, q5⟩, q6⟩
    refine if_not (by simp; omega) (need_of (fun _ => by omega) ?_)
    rw [e]
    exact bnd_of (a := true) rfl rfl
end Go.AB
end

section
namespace Go.AB
open Go Go.RowKit Go.ChangeShapes Go.WideShapes

/-- At a law's start: so many first cells of each block never change. -/
def bigR (N : Nat) (w : World) (b : Nat) : Nat := if b < w.heap.size then N else 0

theorem law_calls' {P : Program} {w : World} {f : FuncId} {args : List AV} {vs : Array Value} (N : Nat) (hf : FN P f args noStore fun rs _ => rs = [.bool true]) (ha : ArgsR w (bigR N w) args vs) :
    Calls P f vs w fun e w' => e = .returned (.bool true) ∧ Below w.heap.size w w' := by
  refine (hf ⟨bigR N w, fun _ => .none⟩ w vs ⟨fun _ _ => rfl, fun b hb => ?_⟩ (fun b => .inl rfl) (fun b o h => by cases h) ha).mono fun e w' ⟨v, rs, s', G', he, hq, _, _, hr, hp⟩ => ?_
  · show bigR N w b = 0
    unfold bigR
    rw [if_neg (by omega)]
  · subst hq
    refine ⟨?_, ⟨hp.os, hp.tape, hp.output, hp.size, fun b hb => hp.frame b hb (.inr rfl)⟩⟩
    rw [he]
    have := VR.inv_bool hr.1
    rw [this]

def VRs (w : World) (R : Nat → Nat) (as1 : List AV) (cs : List Value) : Prop := cs.length = as1.length ∧ ∀ (j : Nat) (a : AV) (v : Value), as1[j]? = some a → cs[j]? = some v → VR w R a v

theorem VRs.one {w : World} {R : Nat → Nat} {a : AV} {v : Value} (h : VR w R a v) : VRs w R [a] [v] := by
  refine ⟨rfl, fun j a' v' h1 h2 => ?_⟩
  cases j with
  | zero => cases h1; cases h2; exact h
  | succ j => simp at h1
theorem VRs.append {w : World} {R : Nat → Nat} {as1 bs : List AV} {cs ds : List Value} (h : VRs w R as1 cs) (k : VRs w R bs ds) : VRs w R (as1 ++ bs) (cs ++ ds) := by
  refine ⟨by rw [List.length_append, List.length_append, h.1, k.1], fun j a v h1 h2 => ?_⟩
  rcases Nat.lt_or_ge j as1.length with hj | hj
  · rw [List.getElem?_append_left hj] at h1
    rw [List.getElem?_append_left (by rw [h.1]; exact hj)] at h2
    exact h.2 j a v h1 h2
  · rw [List.getElem?_append_right hj] at h1
    rw [List.getElem?_append_right (by rw [h.1]; exact hj), h.1] at h2
    exact k.2 _ a v h1 h2

/-- What cells of a Go type read as: values of a Lean type. -/
def OpensC (P : Program) (t : TypeId) {α : Type} (n : Nat) (C : α → List AV) (wf : α → Prop) : Prop :=
  ∀ (H : Type) (enc : TypeId × Value → H) (w : World) (fuel : Nat) (cs : List Value) (x : DataW H × List MemPlace), DataW.trod enc P w 0 (fun _ => true) true fuel t cs = some x →
    cs.length = n ∧ ∃ a : α, wf a ∧ Fl (C a) ∧ ∃ N0, ∀ N, N0 ≤ N → VRs w (bigR N w) (C a) cs
def Opens (P : Program) (t : TypeId) (α : Type) [Enc α] (wf : α → Prop) : Prop := OpensC P t (Enc.w α) (Enc.cells : α → List AV) wf

section
variable {P : Program} {t : TypeId}
theorem fl_one {a : AV} (h : flatV a = true) : Fl [a] := by
  intro c hc
  rw [List.mem_singleton] at hc; rw [hc]; exact h

theorem opens_bool (ht : P.underlying t = some .bool) : Opens P t Bool fun _ => True := by
  intro H enc w fuel cs x h
  obtain ⟨b, rfl, _⟩ := DataW.trod_bool ht h
  exact ⟨rfl, b, trivial, fl_one rfl, 0, fun N _ => VRs.one (.bool b)⟩
theorem opens_int (ht : P.underlying t = some (.int .i64)) : Opens P t Int fun n => -9223372036854775808 ≤ n ∧ n ≤ 9223372036854775807 := by
  intro H enc w fuel cs x h
  obtain ⟨n, rfl, _, hw⟩ := DataW.trod_int ht h
  refine ⟨rfl, n, ?_, fl_one rfl, 0, fun N _ => VRs.one (.int _ n)⟩
  simpa [Lit.wf, IntKind.min, IntKind.max, IntKind.signed, IntKind.bits] using hw
theorem opens_u8 (ht : P.underlying t = some (.int .u8)) : Opens P t UInt8 fun _ => True := by
  intro H enc w fuel cs x h
  obtain ⟨n, rfl, _, hw⟩ := DataW.trod_int ht h
  have hb : 0 ≤ n ∧ n ≤ 255 := by simpa [Lit.wf, IntKind.min, IntKind.max, IntKind.signed, IntKind.bits] using hw
  refine ⟨rfl, UInt8.ofNat n.toNat, trivial, fl_one rfl, 0, fun N _ => ?_⟩
  have e : ((UInt8.ofNat n.toNat).toNat : Int) = n := by
    rw [UInt8.toNat_ofNat']; omega
  show VRs _ _ [.int .u8 ((UInt8.ofNat n.toNat).toNat : Int)] _
  rw [e]
  exact VRs.one (.int _ n)
theorem opens_u32 (ht : P.underlying t = some (.int .u32)) : Opens P t UInt32 fun _ => True := by
  intro H enc w fuel cs x h
  obtain ⟨n, rfl, _, hw⟩ := DataW.trod_int ht h
  have hb : 0 ≤ n ∧ n ≤ 4294967295 := by simpa [Lit.wf, IntKind.min, IntKind.max, IntKind.signed, IntKind.bits] using hw
  refine ⟨rfl, UInt32.ofNat n.toNat, trivial, fl_one rfl, 0, fun N _ => ?_⟩
  have e : ((UInt32.ofNat n.toNat).toNat : Int) = n := by
    rw [UInt32.toNat_ofNat']; omega
  show VRs _ _ [.int .u32 ((UInt32.ofNat n.toNat).toNat : Int)] _
  rw [e]
  exact VRs.one (.int _ n)
theorem opens_u64 (ht : P.underlying t = some (.int .u64)) : Opens P t UInt64 fun _ => True := by
  intro H enc w fuel cs x h
  obtain ⟨n, rfl, _, hw⟩ := DataW.trod_int ht h
  have hb : 0 ≤ n ∧ n ≤ 18446744073709551615 := by simpa [Lit.wf, IntKind.min, IntKind.max, IntKind.signed, IntKind.bits] using hw
  refine ⟨rfl, UInt64.ofNat n.toNat, trivial, fl_one rfl, 0, fun N _ => ?_⟩
  have e : ((UInt64.ofNat n.toNat).toNat : Int) = n := by
    rw [UInt64.toNat_ofNat']; omega
  show VRs _ _ [.int .u64 ((UInt64.ofNat n.toNat).toNat : Int)] _
  rw [e]
  exact VRs.one (.int _ n)
theorem opens_str (ht : P.underlying t = some .string) : Opens P t Str fun s => s.b.length ≤ maxLen := by
  intro H enc w fuel cs x h
  obtain ⟨s, rfl, _, hs⟩ := DataW.trod_string ht h
  refine ⟨rfl, ⟨s.data.toList⟩, by simpa using hs, fl_one rfl, 0, fun N _ => ?_⟩
  have := VR.str (w := w) (R := bigR N w) s.data.toList
  exact VRs.one this

theorem choose_list {α : Type} {Q : Nat → α → Prop} : ∀ n : Nat, (∀ i, i < n → ∃ a, Q i a) → ∃ l : List α, l.length = n ∧ ∀ (i : Nat) (a : α), l[i]? = some a → Q i a
  | 0, _ => ⟨[], rfl, fun i a h => by simp at h⟩
  | n + 1, h => by
    obtain ⟨l, h1, h2⟩ := choose_list n fun i hi => h i (by omega)
    obtain ⟨a, ha⟩ := h n (by omega)
    refine ⟨l ++ [a], by simp [h1], fun i x hx => ?_⟩
    rcases Nat.lt_or_ge i n with hi | hi
    · rw [List.getElem?_append_left (by omega)] at hx; exact h2 i x hx
    · rw [List.getElem?_append_right (by omega)] at hx
      have : i = n := by
        have := (List.getElem?_eq_some_iff.1 hx).1
        simp at this; omega
      subst this
      rw [h1, Nat.sub_self] at hx
      injection hx with hx; rw [← hx]; exact ha
theorem common {Q : Nat → Nat → Prop} : ∀ n : Nat, (∀ i, i < n → ∃ N0, ∀ N, N0 ≤ N → Q i N) → ∃ N0, ∀ N, N0 ≤ N → ∀ i, i < n → Q i N
  | 0, _ => ⟨0, fun _ _ i h => absurd h (Nat.not_lt_zero i)⟩
  | n + 1, h => by
    obtain ⟨a, ha⟩ := common n fun i hi => h i (by omega)
    obtain ⟨b, hb⟩ := h n (by omega)
    refine ⟨max a b, fun N hN i hi => ?_⟩
    rcases Nat.lt_or_ge i n with h1 | h1
    · exact ha N (by omega) i h1
    · have : i = n := by omega
      rw [this]; exact hb N (by omega)

theorem flat_get {α : Type} [Enc α] (l : List α) {i r : Nat} {a : α} (hi : l[i]? = some a) (hr : r < Enc.w α) : (flat l)[i * Enc.w α + r]? = (Enc.cells a)[r]? := by
  have h1 := flat_sub l (Enc.w α) i 1 rfl
  obtain ⟨hlt, he⟩ := List.getElem?_eq_some_iff.1 hi
  have h2 : (l.drop i).take 1 = [a] := by rw [List.drop_eq_getElem_cons hlt, he]; rfl
  rw [h2, flat_cons, flat_nil, List.append_nil, Nat.one_mul] at h1
  rw [← h1]
  unfold AB.sub
  rw [List.getElem?_take, if_pos hr, List.getElem?_drop]

/-- A slice of them, as an argument. -/
theorem open_slice {H : Type} {enc : TypeId × Value → H} {w : World} {e : TypeId} {α : Type} [Enc α] {wf : α → Prop} {b0 : Nat} {v : Value} {d : DataW H} {ps : List MemPlace}
    (ht : P.underlying t = some (.slice e)) (hc : P.cellsOf e = Enc.w α) (he : Opens P e α wf) (hval : Value.okWide P w .any b0 t v) (h : DataW.Trod enc P w 0 (fun _ => true) true t v d ps) :
    ∃ l : List α, l.length ≤ maxLen ∧ (∀ a ∈ l, wf a) ∧ ∃ N0, ∀ N, N0 ≤ N → VR w (bigR N w) (.sl false (Enc.w α) l.length (flat l)) v := by
  have hv : v = .slice none 0 0 ∨ ∃ a len cap, v = .slice (some a) len cap ∧ w.has P .any b0 a e cap := by
    unfold Value.okWide Cell.okWide Cell.ok at hval
    rw [ht] at hval
    dsimp only at hval
    split at hval <;> simp_all
    exact ⟨_, _, _, ⟨rfl, rfl, rfl⟩, hval.2.2⟩
  obtain ⟨fuel, hf⟩ := h
  rcases hv with rfl | ⟨a, len, cap, rfl, hhas⟩
  · exact ⟨[], Nat.zero_le _, (fun _ h => absurd h List.not_mem_nil), 0, fun N _ => .slnil _ _⟩
  · obtain ⟨_, hsp, row, cells, hsh, _⟩ := hhas
    obtain ⟨b, off, spot⟩ := a
    simp only at hsp hsh
    subst hsp
    have hb : b < w.heap.size := by
      rcases Nat.lt_or_ge b w.heap.size with h | h
      · exact h
      · unfold World.shape? at hsh
        rw [Array.getElem?_eq_none h] at hsh
        cases hsh
    rcases DataW.trod_slice ht hf with ⟨h0, _⟩ | ⟨a, len', cap', elems, rest, n, _, hcs, _, _, hl, hm, hlen, hel, _⟩
    · simp [Value.cells] at h0
    · have hcs' : (a = ⟨b, off, none⟩ ∧ len' = len) ∧ cap' = cap := by
        simp [Value.cells] at hcs
        exact ⟨⟨hcs.1.symm, hcs.2.1.symm⟩, hcs.2.2.symm⟩
      obtain ⟨⟨rfl, rfl⟩, rfl⟩ := hcs'
      have each : ∀ i, i < len' → ∃ x : α × List Value, wf x.1 ∧ Fl (Enc.cells x.1) ∧ w.cells? 0 ((⟨b, off, none⟩ : Addr).add (i * Enc.w α)) (Enc.w α) = some x.2 ∧ ∃ N0, ∀ N, N0 ≤ N → VRs w (bigR N w) (Enc.cells x.1) x.2 := by
        intro i hi
        have h1 := hel i hi
        rw [hc, List.getElem?_eq_getElem (by omega), Option.bind_eq_some_iff] at h1
        obtain ⟨cs, h2, h3⟩ := h1
        obtain ⟨_, x, h4, h5, h6⟩ := he H enc w n cs _ h3
        exact ⟨(x, cs), h4, h5, h2, h6⟩
      obtain ⟨L, hL, hQ⟩ := choose_list len' each
      have hx : ∀ i, i < len' → ∃ x, L[i]? = some x := fun i hi => ⟨L[i]'(by omega), List.getElem?_eq_getElem (by omega)⟩
      obtain ⟨N0, hN0⟩ := common (Q := fun i N => ∀ x, L[i]? = some x → VRs w (bigR N w) (Enc.cells x.1) x.2) len' fun i hi => by
        obtain ⟨x, hx⟩ := hx i hi
        obtain ⟨_, _, _, N0, h⟩ := hQ i x hx
        exact ⟨N0, fun N hN y hy => by rw [hx] at hy; cases hy; exact h N hN⟩
      have hwf : ∀ a ∈ L.map (·.1), wf a ∧ Fl (Enc.cells a) := by
        intro a ha
        obtain ⟨x, hx, rfl⟩ := List.mem_map.1 ha
        obtain ⟨i, hi⟩ := List.getElem?_of_mem hx
        have := hQ i x hi
        exact ⟨this.1, this.2.1⟩
      have hget : ∀ (j : Nat) (c : AV), (flat (L.map (·.1)))[j]? = some c → ∃ v, w.cell? ⟨b, off + j, none⟩ = some v ∧ ∀ N, N0 ≤ N → VR w (bigR N w) c v := by
        intro j c hj
        have hw : 0 < Enc.w α := Enc.pos
        have hjl := (List.getElem?_eq_some_iff.1 hj).1
        rw [flat_len, List.length_map, hL] at hjl
        have hi : j / Enc.w α < len' := Nat.div_lt_of_lt_mul (by rw [Nat.mul_comm]; exact hjl)
        have hr : j % Enc.w α < Enc.w α := Nat.mod_lt _ hw
        have hje : j = j / Enc.w α * Enc.w α + j % Enc.w α := by rw [Nat.mul_comm]; exact (Nat.div_add_mod _ _).symm
        obtain ⟨x, hx⟩ := hx _ hi
        have h1 := flat_get (L.map (·.1)) (i := j / Enc.w α) (a := x.1) (by rw [List.getElem?_map, hx]; rfl) hr
        rw [← hje, hj] at h1
        obtain ⟨_, _, h2, _⟩ := hQ _ x hx
        obtain ⟨_, h3, h4⟩ := World.cells?_some h2
        have h5 := h4 _ hr
        rw [add_plain, add_plain, Nat.add_assoc, ← hje] at h5
        refine ⟨x.2[j % Enc.w α]'(by omega), by rw [h5, List.getElem?_eq_getElem], fun N hN => ?_⟩
        exact (hN0 N hN _ hi x hx).2 _ _ _ h1.symm (List.getElem?_eq_getElem _)
      refine ⟨L.map (·.1), by rw [List.length_map, hL]; omega, fun a ha => (hwf a ha).1, max N0 (off + len' * Enc.w α), fun N hN => ?_⟩
      rw [List.length_map, hL]
      refine .sl false (Enc.w α) len' _ b off cap' (fun j => (w.cell? ⟨b, off + j, none⟩).getD default) ?_ ?_ ?_ hl ?_ ?_
      · intro c hcm
        unfold flat at hcm
        obtain ⟨l, hl, hcl⟩ := List.mem_flatten.1 hcm
        obtain ⟨a, ha, rfl⟩ := List.mem_map.1 hl
        exact (hwf a ha).2 c hcl
      · rw [flat_len, List.length_map, hL]
      · rw [flat_len, List.length_map, hL]
        unfold bigR
        rw [if_pos hb]; omega
      · intro j c hj
        obtain ⟨v, h1, _⟩ := hget j c hj
        rw [h1]; rfl
      · intro j c hj
        obtain ⟨v, h1, h2⟩ := hget j c hj
        simp only [h1, Option.getD_some]; exact h2 N (by omega)
end
end Go.AB
end

section
namespace Go.AB
open Go Go.RowKit Go.ChangeShapes Go.WideShapes

section
variable {P : Program}

theorem trodAll_below {H : Type} {enc : TypeId × Value → H} (hl : laidOutB P = true) {W W' : World} (hb : Below W.heap.size W W') :
    ∀ {ts : List TypeId} {vs : List Value} {ds : List (DataW H)} {ps : List MemPlace}, (∀ t ∈ ts, P.readableRec t = true ∧ t < P.types.size) → DataW.TrodAll enc P W 0 (fun _ => true) true ts vs ds ps →
      DataW.TrodAll enc P W' 0 (fun b => decide (b < W.heap.size)) true ts vs ds ps
  | [], [], [], _, _, h => h
  | t :: ts, v :: vs, d :: ds, _, hr, h => by
    have hlt := h.lt
    obtain ⟨p, q, h1, h2, rfl⟩ := h
    have ht := hr t List.mem_cons_self
    exact ⟨p, q, Below.trod hl ht.1 ht.2 h1 hb fun x hx => hlt x (List.mem_append_left _ hx), trodAll_below hl hb (fun t ht => hr t (List.mem_cons_of_mem _ ht)) h2, rfl⟩
  | [], _ :: _, _, _, _, h => h.elim
  | [], [], _ :: _, _, _, h => h.elim
  | _ :: _, [], _, _, _, h => h.elim
  | _ :: _, _ :: _, [], _, _, h => h.elim

/-- What a law's row asks, once its call returns true and turns nothing that was there. -/
theorem law_post {H : Type} {enc : TypeId × Value → H} {fn : Func} {s : ChangeSpec} {f : FuncId} {W : World} {args : Array Value} {ds gs : List (DataW H)} {before : List MemPlace} {tb : TypeId}
    (hvars : s.vars = []) (hres : fn.resultTypes = #[tb]) (htb : P.underlying tb = some .bool) (hl : laidOutB P = true) (hr : ∀ t ∈ fn.params.toList, P.readableRec t = true ∧ t < P.types.size)
    (hspec : ∀ ds : List (DataW H), ds.length = fn.params.toList.length → s.fn H ds = { results := [.lit (.bool true)], args := ds })
    (hW : DataW.Whole enc P fn.params.toList s.vars false W args.toList ds gs before)
    (hc : Calls P f args W fun e w' => e = .returned (.bool true) ∧ Below W.heap.size W w') :
    Calls P f args W fun e W' => ∃ v, e = .returned v ∧ s.post enc P fn false true false false W args v W' := by
  refine hc.mono fun e W' ⟨he, hb⟩ => ⟨.bool true, he, ?_⟩
  have hW' := hW
  obtain ⟨p, q, hA, hV, rfl, hfz, hnd⟩ := hW
  rw [hvars] at hV
  obtain ⟨rfl, rfl⟩ := trodVars_none hV
  have hs := hspec ds (trodAll_length hA).2
  refine ⟨ds, [], _, [], p, [], hW', ?_, ?_, ?_, ?_, fun h => by cases h⟩
  · rw [List.append_nil, hs, hres]
    exact trodAll_mk1 (shut_bool htb true)
  · rw [List.append_nil, hs]
    exact trodAll_below hl hb hr hA
  · rw [List.append_nil, hs, hvars]
    exact rfl
  · exact World.keptBut_mono (fun p hp => hp.elim) (hb.frame fun _ => False)

/-! Products. -/
def OpensF (P : Program) (fs : List (TypeId × Nat)) (o : Nat) {α : Type} (n : Nat) (C : α → List AV) (wf : α → Prop) : Prop :=
  ∀ (H : Type) (enc : TypeId × Value → H) (w : World) (fuel : Nat) (cs : List Value), (∀ f ∈ fs, ∃ x, DataW.trod enc P w 0 (fun _ => true) true fuel f.1 ((cs.drop f.2).take (P.cellsOf f.1)) = some x) →
    ∃ a : α, wf a ∧ Fl (C a) ∧ ∃ N0, ∀ N, N0 ≤ N → VRs w (bigR N w) (C a) ((cs.drop o).take n)

theorem opensF_nil {o : Nat} : OpensF P [] o 0 (fun _ : Unit => []) fun _ => True :=
  fun _ _ _ _ _ _ => ⟨(), trivial, (fun _ h => absurd h List.not_mem_nil), 0, fun _ _ => ⟨by simp, fun j a v h => by simp at h⟩⟩
theorem opensF_cons {t : TypeId} {o n1 n2 : Nat} {fs : List (TypeId × Nat)} {α β : Type} {C1 : α → List AV} {C2 : β → List AV} {wf1 : α → Prop} {wf2 : β → Prop}
    (h1 : OpensC P t n1 C1 wf1) (hc : P.cellsOf t = n1) (h2 : OpensF P fs (o + n1) n2 C2 wf2) : OpensF P ((t, o) :: fs) o (n1 + n2) (fun p : α × β => C1 p.1 ++ C2 p.2) fun p => wf1 p.1 ∧ wf2 p.2 := by
  intro H enc w fuel cs h
  obtain ⟨x, hx⟩ := h _ List.mem_cons_self
  obtain ⟨_, a, ha, hfa, N1, hN1⟩ := h1 H enc w fuel _ x hx
  obtain ⟨b, hb, hfb, N2, hN2⟩ := h2 H enc w fuel cs fun f hf => h f (List.mem_cons_of_mem _ hf)
  refine ⟨(a, b), ⟨ha, hb⟩, fun c hc => (List.mem_append.1 hc).elim (hfa c) (hfb c), max N1 N2, fun N hN => ?_⟩
  rw [List.take_add, List.drop_drop]
  refine VRs.append ?_ (hN2 N (by omega))
  rw [← hc]
  exact hN1 N (by omega)
theorem OpensC.map {t : TypeId} {n : Nat} {α β : Type} {C : α → List AV} {wf : α → Prop} (h : OpensC P t n C wf) {C' : β → List AV} {wf' : β → Prop} (g : α → β) (hC : ∀ a, C' (g a) = C a) (hw : ∀ a, wf a → wf' (g a)) : OpensC P t n C' wf' := by
  intro H enc w fuel cs x hx
  obtain ⟨h1, a, h2, h3, N0, h4⟩ := h H enc w fuel cs x hx
  exact ⟨h1, g a, hw a h2, by rw [hC]; exact h3, N0, by rw [hC]; exact h4⟩
theorem opens_struct {t : TypeId} {fs : Array Field} {n : Nat} {α : Type} {C : α → List AV} {wf : α → Prop} (ht : P.underlying t = some (.struct fs)) (hn : P.cellsOf t = n)
    (hf : OpensF P (fs.toList.map fun f => (f.type, f.offset)) 0 n C wf) : OpensC P t n C wf := by
  intro H enc w fuel cs x h
  obtain ⟨xs, m, _, _, hl, hxl, hel⟩ := DataW.trod_struct ht h
  obtain ⟨a, ha, hfa, N0, hN⟩ := hf H enc w m cs fun f hf => by
    obtain ⟨g, hg, rfl⟩ := List.mem_map.1 hf
    obtain ⟨i, hi⟩ := List.getElem?_of_mem hg
    have h1 := hel i g (by rw [← Array.getElem?_toList]; exact hi)
    have hi' := (List.getElem?_eq_some_iff.1 hi).1
    rw [List.getElem?_eq_getElem (by simpa [hxl] using hi')] at h1
    exact ⟨_, h1⟩
  refine ⟨by rw [hl, hn], a, ha, hfa, N0, fun N h => ?_⟩
  have := hN N h
  rwa [List.drop_zero, List.take_of_length_le (by omega)] at this
theorem opens_array {t e : TypeId} {m k n : Nat} {α : Type} {C : α → List AV} {wf : α → Prop} (ht : P.underlying t = some (.array m e)) (hn : P.cellsOf t = n) (hk : P.cellsOf e = k)
    (hf : OpensF P ((List.range m).map fun i => (e, i * k)) 0 n C wf) : OpensC P t n C wf := by
  intro H enc w fuel cs x h
  obtain ⟨xs, q, _, _, hl, hxl, hel⟩ := DataW.trod_array ht h
  obtain ⟨a, ha, hfa, N0, hN⟩ := hf H enc w q cs fun f hf => by
    obtain ⟨i, hi, rfl⟩ := List.mem_map.1 hf
    have hi' := List.mem_range.1 hi
    have h1 := hel i hi'
    rw [List.getElem?_eq_getElem (by omega), hk] at h1
    rw [hk]
    exact ⟨_, h1⟩
  refine ⟨by rw [hl, hn], a, ha, hfa, N0, fun N h => ?_⟩
  have := hN N h
  rwa [List.drop_zero, List.take_of_length_le (by omega)] at this

/-! Arguments. -/
section
variable {H : Type} {enc : TypeId × Value → H} {w : World} {t : TypeId} {α : Type} [Enc α] {wf : α → Prop} {b0 : Nat} {v : Value} {d : DataW H} {ps : List MemPlace}
theorem open_agg (hs : (∃ fs, P.underlying t = some (.struct fs)) ∨ ∃ n e, P.underlying t = some (.array n e)) (he : Opens P t α wf) (hval : Value.okWide P w .any b0 t v) (h : DataW.Trod enc P w 0 (fun _ => true) true t v d ps) :
    ∃ a : α, wf a ∧ ∃ N0, ∀ N, N0 ≤ N → VR w (bigR N w) (.agg (Enc.cells a)) v := by
  have hv : ∃ cs, v = .agg cs := by
    unfold Value.okWide at hval
    rcases hs with ⟨fs, hs⟩ | ⟨n, e, hs⟩ <;> rw [hs] at hval <;> obtain ⟨cs, rfl, _⟩ := hval <;> exact ⟨cs, rfl⟩
  obtain ⟨cs, rfl⟩ := hv
  obtain ⟨fuel, hf⟩ := h
  obtain ⟨_, a, ha, hfl, N0, hN⟩ := he H enc w fuel _ _ hf
  refine ⟨a, ha, N0, fun N h => ?_⟩
  have h1 := hN N h
  exact .agg _ _ hfl (by simpa [Value.cells] using h1.1) fun j c v h2 h3 => h1.2 j c v h2 (by simpa [Value.cells] using h3)
theorem open_plain (hs : ∀ cs, v ≠ .agg cs) (he : Opens P t α wf) (h : DataW.Trod enc P w 0 (fun _ => true) true t v d ps) :
    ∃ a : α, wf a ∧ ∃ N0, ∀ N, N0 ≤ N → VRs w (bigR N w) (Enc.cells a) [v] := by
  obtain ⟨fuel, hf⟩ := h
  obtain ⟨_, a, ha, _, N0, hN⟩ := he H enc w fuel _ _ hf
  refine ⟨a, ha, N0, fun N h => ?_⟩
  have h1 := hN N h
  have : v.cells.toList = [v] := by
    cases v <;> first | rfl | exact absurd rfl (hs _)
  rwa [this] at h1
theorem VRs.head {R : Nat → Nat} {a : AV} (h : VRs w R [a] [v]) : VR w R a v := h.2 0 a v rfl rfl
theorem open_i64 (ht : P.underlying t = some (.int .i64)) (hval : Value.okWide P w .any b0 t v) (h : DataW.Trod enc P w 0 (fun _ => true) true t v d ps) :
    ∃ n : Int, (-9223372036854775808 ≤ n ∧ n ≤ 9223372036854775807) ∧ ∃ N0, ∀ N, N0 ≤ N → VR w (bigR N w) (.int .i64 n) v := by
  obtain ⟨n, rfl, _⟩ := open_int ht hval h
  obtain ⟨a, ha, N0, hN⟩ := open_plain (fun _ h => by cases h) (opens_int ht) h
  exact ⟨a, ha, N0, fun N h => (hN N h).head⟩
theorem open_byte (ht : P.underlying t = some (.int .u8)) (hval : Value.okWide P w .any b0 t v) (h : DataW.Trod enc P w 0 (fun _ => true) true t v d ps) :
    ∃ n : UInt8, True ∧ ∃ N0, ∀ N, N0 ≤ N → VR w (bigR N w) (.int .u8 n.toNat) v := by
  obtain ⟨n, rfl, _⟩ := open_int ht hval h
  obtain ⟨a, ha, N0, hN⟩ := open_plain (fun _ h => by cases h) (opens_u8 ht) h
  exact ⟨a, ha, N0, fun N h => (hN N h).head⟩
theorem open_w32 (ht : P.underlying t = some (.int .u32)) (hval : Value.okWide P w .any b0 t v) (h : DataW.Trod enc P w 0 (fun _ => true) true t v d ps) :
    ∃ n : UInt32, True ∧ ∃ N0, ∀ N, N0 ≤ N → VR w (bigR N w) (.int .u32 n.toNat) v := by
  obtain ⟨n, rfl, _⟩ := open_int ht hval h
  obtain ⟨a, ha, N0, hN⟩ := open_plain (fun _ h => by cases h) (opens_u32 ht) h
  exact ⟨a, ha, N0, fun N h => (hN N h).head⟩
theorem open_w64 (ht : P.underlying t = some (.int .u64)) (hval : Value.okWide P w .any b0 t v) (h : DataW.Trod enc P w 0 (fun _ => true) true t v d ps) :
    ∃ n : UInt64, True ∧ ∃ N0, ∀ N, N0 ≤ N → VR w (bigR N w) (.int .u64 n.toNat) v := by
  obtain ⟨n, rfl, _⟩ := open_int ht hval h
  obtain ⟨a, ha, N0, hN⟩ := open_plain (fun _ h => by cases h) (opens_u64 ht) h
  exact ⟨a, ha, N0, fun N h => (hN N h).head⟩
theorem open_truth (ht : P.underlying t = some .bool) (hval : Value.okWide P w .any b0 t v) (h : DataW.Trod enc P w 0 (fun _ => true) true t v d ps) :
    ∃ b : Bool, True ∧ ∃ N0, ∀ N, N0 ≤ N → VR w (bigR N w) (.bool b) v := by
  obtain ⟨n, rfl, _⟩ := open_bool ht hval h
  exact ⟨n, trivial, 0, fun N _ => .bool n⟩
theorem open_text (ht : P.underlying t = some .string) (hval : Value.okWide P w .any b0 t v) (h : DataW.Trod enc P w 0 (fun _ => true) true t v d ps) :
    ∃ s : Str, s.b.length ≤ maxLen ∧ ∃ N0, ∀ N, N0 ≤ N → VR w (bigR N w) (.str s.b) v := by
  obtain ⟨n, rfl, _⟩ := Go.ChangeMaps.open_string ht hval h
  obtain ⟨a, ha, N0, hN⟩ := open_plain (fun _ h => by cases h) (opens_str ht) h
  exact ⟨a, ha, N0, fun N h => (hN N h).head⟩
end

theorem args1 {w : World} {R : Nat → Nat} {a0 : AV} {v0 : Value} (h0 : VR w R a0 v0) : ArgsR w R [a0] #[v0] :=
  ⟨rfl, fun j a v h1 h2 => by match j, h1, h2 with | 0, h1, h2 => (cases h1; cases h2; exact h0)⟩
theorem args2 {w : World} {R : Nat → Nat} {a0 a1 : AV} {v0 v1 : Value} (h0 : VR w R a0 v0) (h1 : VR w R a1 v1) : ArgsR w R [a0, a1] #[v0, v1] :=
  ⟨rfl, fun j a v k1 k2 => by match j, k1, k2 with | 0, k1, k2 => (cases k1; cases k2; exact h0) | 1, k1, k2 => (cases k1; cases k2; exact h1)⟩
theorem args3 {w : World} {R : Nat → Nat} {a0 a1 a2 : AV} {v0 v1 v2 : Value} (h0 : VR w R a0 v0) (h1 : VR w R a1 v1) (h2 : VR w R a2 v2) : ArgsR w R [a0, a1, a2] #[v0, v1, v2] :=
  ⟨rfl, fun j a v k1 k2 => by match j, k1, k2 with | 0, k1, k2 => (cases k1; cases k2; exact h0) | 1, k1, k2 => (cases k1; cases k2; exact h1) | 2, k1, k2 => (cases k1; cases k2; exact h2)⟩
end
end Go.AB
end

section
namespace Go.AB
open Go

def fieldsAre (P : Program) (t : TypeId) (L : List (TypeId × Nat)) : Bool := match P.underlying t with
  | some (.struct fs) => fs.toList.map (fun f => (f.type, f.offset)) == L
  | _ => false
theorem opens_fields {P : Program} {t : TypeId} {L : List (TypeId × Nat)} {n : Nat} {α : Type} {C : α → List AV} {wf : α → Prop} (hs : fieldsAre P t L = true) (hn : P.cellsOf t = n) (hf : OpensF P L 0 n C wf) : OpensC P t n C wf := by
  unfold fieldsAre at hs
  split at hs
  · rename_i fs ht
    have he := eq_of_beq hs
    exact opens_struct ht hn (by rw [he]; exact hf)
  · cases hs
end Go.AB
end

section
namespace Go.AB
open Go Go.RowKit Go.ChangeShapes Go.WideShapes

/-- What cells of a Go type read as, up to a depth. -/
def OpensB (K : Nat) (P : Program) (t : TypeId) {α : Type} (n : Nat) (C : α → List AV) (wf : α → Prop) : Prop :=
  ∀ (H : Type) (enc : TypeId × Value → H) (w : World) (fuel : Nat) (cs : List Value) (x : DataW H × List MemPlace), fuel ≤ K → DataW.trod enc P w 0 (fun _ => true) true fuel t cs = some x →
    cs.length = n ∧ ∃ a : α, wf a ∧ Fl (C a) ∧ ∃ N0, ∀ N, N0 ≤ N → VRs w (bigR N w) (C a) cs
def OpensFB (K : Nat) (P : Program) (fs : List (TypeId × Nat)) (o : Nat) {α : Type} (n : Nat) (C : α → List AV) (wf : α → Prop) : Prop :=
  ∀ (H : Type) (enc : TypeId × Value → H) (w : World) (fuel : Nat) (cs : List Value), fuel ≤ K → (∀ f ∈ fs, ∃ x, DataW.trod enc P w 0 (fun _ => true) true fuel f.1 ((cs.drop f.2).take (P.cellsOf f.1)) = some x) →
    ∃ a : α, wf a ∧ Fl (C a) ∧ ∃ N0, ∀ N, N0 ≤ N → VRs w (bigR N w) (C a) ((cs.drop o).take n)

section
variable {P : Program} {t : TypeId}

theorem OpensC.b {n : Nat} {α : Type} {C : α → List AV} {wf : α → Prop} (h : OpensC P t n C wf) (K : Nat) : OpensB K P t n C wf := fun H enc w fuel cs x _ hx => h H enc w fuel cs x hx
theorem OpensB.all {n : Nat} {α : Type} {C : α → List AV} {wf : α → Prop} (h : ∀ K, OpensB K P t n C wf) : OpensC P t n C wf := fun H enc w fuel cs x hx => h fuel H enc w fuel cs x (Nat.le_refl _) hx
theorem OpensB.le {n : Nat} {α : Type} {C : α → List AV} {wf : α → Prop} {K K' : Nat} (h : OpensB K P t n C wf) (hk : K' ≤ K) : OpensB K' P t n C wf := fun H enc w fuel cs x hf hx => h H enc w fuel cs x (Nat.le_trans hf hk) hx
theorem OpensB.zero {n : Nat} {α : Type} {C : α → List AV} {wf : α → Prop} : OpensB 0 P t n C wf := fun H enc w fuel cs x hf hx => by
  have : fuel = 0 := by omega
  subst this
  simp [DataW.trod] at hx
theorem OpensB.map {K n : Nat} {α β : Type} {C : α → List AV} {wf : α → Prop} (h : OpensB K P t n C wf) {C' : β → List AV} {wf' : β → Prop} (g : α → β) (hC : ∀ a, C' (g a) = C a) (hw : ∀ a, wf a → wf' (g a)) : OpensB K P t n C' wf' := by
  intro H enc w fuel cs x hf hx
  obtain ⟨h1, a, h2, h3, N0, h4⟩ := h H enc w fuel cs x hf hx
  exact ⟨h1, g a, hw a h2, by rw [hC]; exact h3, N0, by rw [hC]; exact h4⟩

theorem opensFB_nil {K o : Nat} : OpensFB K P [] o 0 (fun _ : Unit => []) fun _ => True :=
  fun _ _ _ _ _ _ _ => ⟨(), trivial, (fun _ h => absurd h List.not_mem_nil), 0, fun _ _ => ⟨by simp, fun j a v h => by simp at h⟩⟩
theorem opensFB_cons {K : Nat} {t : TypeId} {o n1 n2 : Nat} {fs : List (TypeId × Nat)} {α β : Type} {C1 : α → List AV} {C2 : β → List AV} {wf1 : α → Prop} {wf2 : β → Prop}
    (h1 : OpensB K P t n1 C1 wf1) (hc : P.cellsOf t = n1) (h2 : OpensFB K P fs (o + n1) n2 C2 wf2) : OpensFB K P ((t, o) :: fs) o (n1 + n2) (fun p : α × β => C1 p.1 ++ C2 p.2) fun p => wf1 p.1 ∧ wf2 p.2 := by
  intro H enc w fuel cs hk h
  obtain ⟨x, hx⟩ := h _ List.mem_cons_self
  obtain ⟨_, a, ha, hfa, N1, hN1⟩ := h1 H enc w fuel _ x hk hx
  obtain ⟨b, hb, hfb, N2, hN2⟩ := h2 H enc w fuel cs hk fun f hf => h f (List.mem_cons_of_mem _ hf)
  refine ⟨(a, b), ⟨ha, hb⟩, fun c hc => (List.mem_append.1 hc).elim (hfa c) (hfb c), max N1 N2, fun N hN => ?_⟩
  rw [List.take_add, List.drop_drop]
  refine VRs.append ?_ (hN2 N (by omega))
  rw [← hc]
  exact hN1 N (by omega)

theorem opens_fieldsB {K : Nat} {L : List (TypeId × Nat)} {n : Nat} {α : Type} {C : α → List AV} {wf : α → Prop} (hs : fieldsAre P t L = true) (hn : P.cellsOf t = n) (hf : OpensFB K P L 0 n C wf) : OpensB (K + 1) P t n C wf := by
  unfold fieldsAre at hs
  split at hs
  · rename_i fs ht
    have he := eq_of_beq hs
    subst he
    intro H enc w fuel cs x hk h
    obtain ⟨xs, m, rfl, _, hl, hxl, hel⟩ := DataW.trod_struct ht h
    obtain ⟨a, ha, hfa, N0, hN⟩ := hf H enc w m cs (by omega) fun f hf => by
      obtain ⟨g, hg, rfl⟩ := List.mem_map.1 hf
      obtain ⟨i, hi⟩ := List.getElem?_of_mem hg
      have h1 := hel i g (by rw [← Array.getElem?_toList]; exact hi)
      have hi' := (List.getElem?_eq_some_iff.1 hi).1
      rw [List.getElem?_eq_getElem (by simpa [hxl] using hi')] at h1
      exact ⟨_, h1⟩
    refine ⟨by rw [hl, hn], a, ha, hfa, N0, fun N h => ?_⟩
    have := hN N h
    rwa [List.drop_zero, List.take_of_length_le (by omega)] at this
  · cases hs

/-- A slice of them, as a cell. -/
theorem slice_cell {w : World} {α : Type} [Enc α] {wf : α → Prop} {a : Addr} {len cap : Nat} (hl : len ≤ cap) (hm : cap ≤ maxLen)
    (each : ∀ i, i < len → ∃ x : α × List Value, wf x.1 ∧ Fl (Enc.cells x.1) ∧ w.cells? 0 (a.add (i * Enc.w α)) (Enc.w α) = some x.2 ∧ ∃ N0, ∀ N, N0 ≤ N → VRs w (bigR N w) (Enc.cells x.1) x.2) :
    ∃ l : List α, (l.length ≤ maxLen ∧ ∀ a ∈ l, wf a) ∧ Fl [.sl false (Enc.w α) l.length (flat l)] ∧ ∃ N0, ∀ N, N0 ≤ N → VRs w (bigR N w) [.sl false (Enc.w α) l.length (flat l)] [.slice (some a) len cap] := by
  have hw : 0 < Enc.w α := Enc.pos
  rcases Nat.eq_zero_or_pos len with h0 | h0
  · subst h0
    exact ⟨[], ⟨Nat.zero_le _, fun _ h => absurd h List.not_mem_nil⟩, fl_one rfl, 0, fun N _ => .one (.sle _ _ _)⟩
  obtain ⟨b, off, spot⟩ := a
  have hplain : spot = none ∧ b < w.heap.size := by
    obtain ⟨x, _, _, h2, _⟩ := each 0 h0
    obtain ⟨_, h3, h4⟩ := World.cells?_some h2
    have h5 := h4 0 hw
    have hxl : 0 < x.2.length := by omega
    rw [List.getElem?_eq_getElem hxl] at h5
    unfold World.cell? at h5
    have e1 : (((⟨b, off, spot⟩ : Addr).add (0 * Enc.w α)).add 0).block = b := by
      unfold Addr.add; repeat' split
      all_goals rfl
    have e2 : (((⟨b, off, spot⟩ : Addr).add (0 * Enc.w α)).add 0).spot.isSome = spot.isSome := by
      cases spot with
      | none => unfold Addr.add; repeat' split
                all_goals simp_all
      | some q => unfold Addr.add; repeat' split
                  all_goals simp_all
    rw [e1, e2] at h5
    split at h5
    · rename_i hh
      refine ⟨?_, (Array.getElem?_eq_some_iff.1 hh).1⟩
      cases spot with
      | none => rfl
      | some q => simp at h5
    · cases h5
  obtain ⟨rfl, hb⟩ := hplain
  obtain ⟨L, hL, hQ⟩ := choose_list len each
  have hx : ∀ i, i < len → ∃ x, L[i]? = some x := fun i hi => ⟨L[i]'(by omega), List.getElem?_eq_getElem (by omega)⟩
  obtain ⟨N0, hN0⟩ := common (Q := fun i N => ∀ x, L[i]? = some x → VRs w (bigR N w) (Enc.cells x.1) x.2) len fun i hi => by
    obtain ⟨x, hx⟩ := hx i hi
    obtain ⟨_, _, _, N0, h⟩ := hQ i x hx
    exact ⟨N0, fun N hN y hy => by rw [hx] at hy; cases hy; exact h N hN⟩
  have hwf : ∀ a ∈ L.map (·.1), wf a ∧ Fl (Enc.cells a) := by
    intro a ha
    obtain ⟨x, hx, rfl⟩ := List.mem_map.1 ha
    obtain ⟨i, hi⟩ := List.getElem?_of_mem hx
    have := hQ i x hi
    exact ⟨this.1, this.2.1⟩
  have hget : ∀ (j : Nat) (c : AV), (flat (L.map (·.1)))[j]? = some c → ∃ v, w.cell? ⟨b, off + j, none⟩ = some v ∧ ∀ N, N0 ≤ N → VR w (bigR N w) c v := by
    intro j c hj
    have hjl := (List.getElem?_eq_some_iff.1 hj).1
    rw [flat_len, List.length_map, hL] at hjl
    have hi : j / Enc.w α < len := Nat.div_lt_of_lt_mul (by rw [Nat.mul_comm]; exact hjl)
    have hr : j % Enc.w α < Enc.w α := Nat.mod_lt _ hw
    have hje : j = j / Enc.w α * Enc.w α + j % Enc.w α := by rw [Nat.mul_comm]; exact (Nat.div_add_mod _ _).symm
    obtain ⟨x, hx⟩ := hx _ hi
    have h1 := flat_get (L.map (·.1)) (i := j / Enc.w α) (a := x.1) (by rw [List.getElem?_map, hx]; rfl) hr
    rw [← hje, hj] at h1
    obtain ⟨_, _, h2, _⟩ := hQ _ x hx
    obtain ⟨_, h3, h4⟩ := World.cells?_some h2
    have h5 := h4 _ hr
    rw [add_plain, add_plain, Nat.add_assoc, ← hje] at h5
    refine ⟨x.2[j % Enc.w α]'(by omega), by rw [h5, List.getElem?_eq_getElem], fun N hN => ?_⟩
    exact (hN0 N hN _ hi x hx).2 _ _ _ h1.symm (List.getElem?_eq_getElem _)
  refine ⟨L.map (·.1), ⟨by rw [List.length_map, hL]; omega, fun a ha => (hwf a ha).1⟩, fl_one rfl, max N0 (off + len * Enc.w α), fun N hN => .one ?_⟩
  rw [List.length_map, hL]
  refine .sl false (Enc.w α) len _ b off cap (fun j => (w.cell? ⟨b, off + j, none⟩).getD default) ?_ ?_ ?_ hl ?_ ?_
  · intro c hcm
    unfold flat at hcm
    obtain ⟨l, hl, hcl⟩ := List.mem_flatten.1 hcm
    obtain ⟨a, ha, rfl⟩ := List.mem_map.1 hl
    exact (hwf a ha).2 c hcl
  · rw [flat_len, List.length_map, hL]
  · rw [flat_len, List.length_map, hL]
    unfold bigR
    rw [if_pos hb]; omega
  · intro j c hj
    obtain ⟨v, h1, _⟩ := hget j c hj
    rw [h1]; rfl
  · intro j c hj
    obtain ⟨v, h1, h2⟩ := hget j c hj
    simp only [h1, Option.getD_some]; exact h2 N (by omega)

theorem opens_sliceB {K : Nat} {e : TypeId} {α : Type} [Enc α] {wf : α → Prop} (ht : P.underlying t = some (.slice e)) (hc : P.cellsOf e = Enc.w α) (he : OpensB K P e (Enc.w α) (Enc.cells : α → List AV) wf) :
    OpensB (K + 1) P t 1 (fun l : List α => [.sl false (Enc.w α) l.length (flat l)]) fun l => l.length ≤ maxLen ∧ ∀ a ∈ l, wf a := by
  intro H enc w fuel cs x hk h
  rcases DataW.trod_slice ht h with ⟨rfl, _⟩ | ⟨a, len, cap, elems, rest, n, rfl, rfl, _, _, hl, hm, hlen, hel, _⟩
  · exact ⟨rfl, [], ⟨Nat.zero_le _, fun _ h => absurd h List.not_mem_nil⟩, fl_one rfl, 0, fun N _ => .one (.slnil _ _)⟩
  · refine ⟨rfl, slice_cell hl hm fun i hi => ?_⟩
    have h1 := hel i hi
    rw [hc, List.getElem?_eq_getElem (by omega), Option.bind_eq_some_iff] at h1
    obtain ⟨cs, h2, h3⟩ := h1
    obtain ⟨_, x, h4, h5, h6⟩ := he H enc w n cs _ (by omega) h3
    exact ⟨(x, cs), h4, h5, h2, h6⟩
theorem opens_sliceC {e : TypeId} {α : Type} [Enc α] {wf : α → Prop} (ht : P.underlying t = some (.slice e)) (hc : P.cellsOf e = Enc.w α) (he : Opens P e α wf) :
    OpensC P t 1 (fun l : List α => [.sl false (Enc.w α) l.length (flat l)]) fun l => l.length ≤ maxLen ∧ ∀ a ∈ l, wf a :=
  OpensB.all fun K => (opens_sliceB ht hc (OpensC.b he K)).le (Nat.le_succ K)

theorem fieldsAre_ex {L : List (TypeId × Nat)} (hs : fieldsAre P t L = true) : ∃ fs, P.underlying t = some (.struct fs) := by
  unfold fieldsAre at hs
  split at hs
  · rename_i fs ht; exact ⟨fs, ht⟩
  · cases hs
theorem okWide_slice {w : World} {e : TypeId} {b0 : Nat} {v : Value} (ht : P.underlying t = some (.slice e)) (hval : Value.okWide P w .any b0 t v) : ∀ cs, v ≠ .agg cs := by
  intro cs h
  subst h
  unfold Value.okWide Cell.okWide Cell.ok at hval
  rw [ht] at hval
  exact hval
/-- An argument that is a slice. -/
theorem open_row {H : Type} {enc : TypeId × Value → H} {w : World} {e : TypeId} {α : Type} [Enc α] {wf : α → Prop} {v : Value} {d : DataW H} {ps : List MemPlace}
    (ht : P.underlying t = some (.slice e)) (hc : P.cellsOf e = Enc.w α) (he : Opens P e α wf) (h : DataW.Trod enc P w 0 (fun _ => true) true t v d ps) (hv : ∀ cs, v ≠ .agg cs) :
    ∃ l : List α, (l.length ≤ maxLen ∧ ∀ a ∈ l, wf a) ∧ ∃ N0, ∀ N, N0 ≤ N → VR w (bigR N w) (.sl false (Enc.w α) l.length (flat l)) v := by
  obtain ⟨fuel, hf⟩ := h
  obtain ⟨_, l, hl, _, N0, hN⟩ := opens_sliceC ht hc he H enc w fuel _ _ hf
  have hcells : v.cells.toList = [v] := by
    cases v <;> first | rfl | exact absurd rfl (hv _)
  refine ⟨l, hl, N0, fun N h => ?_⟩
  have := hN N h
  rw [hcells] at this
  exact this.head
end
end Go.AB
end

section
set_option linter.unusedSimpArgs false
namespace Go.AB
open Go Go.ChangeShapes Go.WideShapes Go.ChangeAt Go.RowKit Go.Proofs.Ytpioecahefokmaa Go.Proofs


theorem law35_RangesChunks_own : ownKnob Try.prog.godebug = none := by kernel_rfl
theorem law35_RangesChunks_laid : laidOutB Try.prog = true := by kernel_rfl
theorem law35_RangesChunks_ub : Try.prog.underlying 4 = some .bool := by kernel_rfl
set_option maxRecDepth 100000 in
theorem law35_RangesChunks_law {H : Type} {enc : TypeId × Value → H} {W : World} {base : Nat} {args : Array Value} {ds gs : List (DataW H)} {before : List MemPlace}
    (hval0 : ∀ (j : Nat) t v, Try.f9.params[j]? = some t → args[j]? = some v → Value.okWide Try.prog W .any base t v)
    (hW : DataW.Whole enc Try.prog Try.f9.params.toList Rows.rangesChunksSpec.vars false W args.toList ds gs before) :
    Calls Try.prog 9 args W fun e w' => e = .returned (.bool true) ∧ Below W.heap.size W w' := by
  obtain ⟨p, q, hA0, hV, rfl, hfz, hnd⟩ := hW
  have hval := hval0
  have hA : DataW.TrodAll enc Try.prog W 0 (fun _ => true) true Try.f9.params.toList args.toList ds p := hA0
  have hp : Try.f9.params = #[3, 3, 3] := by kernel_rfl
  rw [hp] at hA hval
  obtain ⟨v0, v1, v2, d0, d1, d2, p0, p1, p2, rfl, rfl, rfl, h0, h1, h2⟩ := trodAll_three hA
  obtain ⟨x0, w0, N0, k0⟩ := open_i64 (by kernel_rfl) (hval 0 3 v0 rfl rfl) h0
  obtain ⟨x1, w1, N1, k1⟩ := open_i64 (by kernel_rfl) (hval 1 3 v1 rfl rfl) h1
  obtain ⟨x2, w2, N2, k2⟩ := open_i64 (by kernel_rfl) (hval 2 3 v2 rfl rfl) h2
  refine law_calls' (max N0 (max N1 N2)) ?_ (args3 (k0 _ (by omega)) (k1 _ (by omega)) (k2 _ (by omega)))
  exact (law35_RangesChunks_fe (law35_RangesChunks_true w0 w1 w2)).app rfl

end Go.AB
namespace Go.Proofs.Ytpioecahefokmaa
open Go.ChangeShapes Go.WideShapes Go.ChangeAt Go.RowKit
set_option maxRecDepth 100000 in
theorem rangesChunks_lifted (os : Os) (started : os.Started) (H : Type) (enc : TypeId × Value → H) :
    ReturnsInHanded {} Try.checked os 9 .any (Rows.rangesChunksSpec.pre6 enc Try.prog Try.f9 Rows.rangesChunksRow.domain false) (Rows.rangesChunksSpec.post enc Try.prog Try.f9 false true false false) := by
  refine returnsInHanded_of_change (C := Try.checked) AB.law35_RangesChunks_own started (by kernel_rfl) Try.func9
    (ChangeSpec.witness6 (enc := enc) (C := Try.checked) false ⟨#[], #[.int .i64 0, .int .i64 0, .int .i64 0], []⟩ 8 (by kernel_rfl) (by kernel_rfl) (by kernel_rfl) (by kernel_rfl)) ?_
  intro W base args ds gs before hval hW _ _
  exact AB.law_post rfl (by kernel_rfl) AB.law35_RangesChunks_ub AB.law35_RangesChunks_laid (of_decide_eq_true (by kernel_rfl)) (fun ds h => by
    match ds, h with
    | [_, _, _], _ => rfl) hW (AB.law35_RangesChunks_law hval hW)

theorem rangesChunks_holds : Rows.RangesChunksSaid :=
  OpenClaim.holds_of_wide 9 Try.f9 rfl rfl rfl rfl rfl rfl rfl ⟨rfl, rfl, rfl, rfl, rfl⟩ rfl rfl rfl rfl rfl (by kernel_rfl) Try.func9 (by kernel_rfl)
    (of_decide_eq_true (by kernel_rfl)) (by unfold Func.isWrapper; first | (rw [if_pos (by decide +kernel)]; kernel_rfl) | (rw [if_neg (by decide +kernel)]; exact ⟨rfl, rfl⟩))
    (fun os started H enc _ => rangesChunks_lifted os started H enc)
end Go.Proofs.Ytpioecahefokmaa
end
