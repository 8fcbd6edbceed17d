/- The law ReachRows returns true for every input; each argument reads behind the call as it read before. No condition. -/
import Derived.Test.YtpioecahefokmaaGreatReachRows5
import Derived.Test.YtpioecahefokmaaGreatReachRows4
import Derived.ProofKit
import Derived.OpenShut
import Derived.ChangeCalls
import Derived.Test.YtpioecahefokmaaGreatRows
import Derived.JoinedCond
set_option linter.unusedSimpArgs false
set_option linter.unusedVariables false
section
set_option maxRecDepth 4000
namespace Go.AB
open Go
/-- catchword/catchwordlaw21.works -/
def law21_works  : Option (Bool) :=
  bnd (value_NameOf (Str.mk [80, 97, 114, 101, 110, 116])) fun r1 =>
  bnd (value_RefTo 9) fun r2 =>
  bnd (value_NameOf (Str.mk [65])) fun r3 =>
  bnd (value_RefTo 2) fun r4 =>
  bnd (value_NameOf (Str.mk [66])) fun r5 =>
  bnd (value_RefTo 1) fun r6 =>
  bnd (value_DictOf [r1, r2, r3, r4, r5, r6]) fun r7 =>
  bnd (value_RefTo 3) fun r8 =>
  bnd (file_Of (api_Doc.mk [(api_Object.mk r7 false (Str.mk [])), (api_Object.mk r8 false (Str.mk [])), (api_Object.mk (api_Value.mk 0 0 (Str.mk []) ([] : List api_Value)) false (Str.mk []))] 1)) fun r9 =>
  bnd (reach_Closure r9 (tree_Leaf.mk 1 ([] : List Int) (api_Value.mk 0 0 (Str.mk []) ([] : List api_Value)))) fun r10 =>
  bnd (ref21_Same r10.1 [1, 2, 3]) fun r11 =>
  bnd (whenB (((r11 && ((r10.2.1.length : Int) == 3)) && (r10.2.2.1 == 0)) && (r10.2.2.2 == 0)) [] (reach_Next r7)) fun r12 =>
  bnd (whenB (((r11 && ((r10.2.1.length : Int) == 3)) && (r10.2.2.1 == 0)) && (r10.2.2.2 == 0)) false (ref21_Same r12 [2, 1, 9])) fun r13 =>
  bnd (whenB ((((r11 && ((r10.2.1.length : Int) == 3)) && (r10.2.2.1 == 0)) && (r10.2.2.2 == 0)) && r13) (api_Value.mk 0 0 (Str.mk []) []) (value_RefTo 4)) fun r14 =>
  bnd (whenB ((((r11 && ((r10.2.1.length : Int) == 3)) && (r10.2.2.1 == 0)) && (r10.2.2.2 == 0)) && r13) [] (reach_First r7 r14)) fun r15 =>
  bnd (whenB ((((r11 && ((r10.2.1.length : Int) == 3)) && (r10.2.2.1 == 0)) && (r10.2.2.2 == 0)) && r13) false (ref21_Same r15 [2, 1, 4])) fun r16 =>
  some (((((r11 && ((r10.2.1.length : Int) == 3)) && (r10.2.2.1 == 0)) && (r10.2.2.2 == 0)) && r13) && r16)
theorem fnok_27 : (fnOK Go.Proofs.Tryz.prog 27 = true) = True := eq_true (by kernel_rfl)
theorem fnok_28 : (fnOK Go.Proofs.Tryz.prog 28 = true) = True := eq_true (by kernel_rfl)
def ir_law21_works : IC :=
 (.seq (.reg none [i1 0 (.mov false (.c (.bool false)))] [])
 (.seq (.reg none [i1 1 (.mov false (.c (.fn 27 [] []))),
 i1 2 (.mov false (.c (.fn 28 [] [])))] [1, 2])
 (.seq (.reg none [mv 9 1,
 i1 10 (.callv (.t 9) [(.c (.str [80, 97, 114, 101, 110, 116]))]),
 mv 11 2,
 i1 12 (.callv (.t 11) [(.c (.int .i64 9))]),
 mv 13 1,
 i1 14 (.callv (.t 13) [(.c (.str [65]))]),
 mv 15 2,
 i1 16 (.callv (.t 15) [(.c (.int .i64 2))]),
 mv 17 1,
 i1 18 (.callv (.t 17) [(.c (.str [66]))]),
 mv 19 2,
 i1 20 (.callv (.t 19) [(.c (.int .i64 1))]),
 i1 21 (.buildSl 4 6 [.int .i64 0, .int .i64 0, .str [], .sl true 4 0 [], .int .i64 0, .int .i64 0, .str [], .sl true 4 0 [], .int .i64 0, .int .i64 0, .str [], .sl true 4 0 [], .int .i64 0, .int .i64 0, .str [], .sl true 4 0 [], .int .i64 0, .int .i64 0, .str [], .sl true 4 0 [], .int .i64 0, .int .i64 0, .str [], .sl true 4 0 []] [(0, 4, (.t 10)), (4, 4, (.t 12)), (8, 4, (.t 14)), (12, 4, (.t 16)), (16, 4, (.t 18)), (20, 4, (.t 20))]),
 i1 22 (.call 29 [(.t 21)]),
 i1 3 (.allocL [.int .i64 0, .int .i64 0, .str [], .sl true 4 0 []]),
 i0 (.store 4 (.t 3) (.t 22))] [2, 3])
 (.seq (.regT [4] 10 [i1 23 (.load 4 true (.t 3)),
 i1 24 (.build [.int .i64 0, .int .i64 0, .str [], .sl true 4 0 [], .bool false, .str []] [(0, 4, (.t 23))]),
 mv 25 2,
 i1 26 (.callv (.t 25) [(.c (.int .i64 3))]),
 i1 27 (.build [.int .i64 0, .int .i64 0, .str [], .sl true 4 0 [], .bool false, .str []] [(0, 4, (.t 26))]),
 i1 28 (.build [.int .i64 0, .int .i64 0, .str [], .sl true 4 0 [], .bool false, .str []] []),
 i1 29 (.buildSl 6 3 [.int .i64 0, .int .i64 0, .str [], .sl true 4 0 [], .bool false, .str [], .int .i64 0, .int .i64 0, .str [], .sl true 4 0 [], .bool false, .str [], .int .i64 0, .int .i64 0, .str [], .sl true 4 0 [], .bool false, .str []] [(0, 6, (.t 24)), (6, 6, (.t 27)), (12, 6, (.t 28))]),
 i1 30 (.build [.sl true 6 0 [], .int .i64 0] [(0, 1, (.t 29)), (1, 1, (.c (.int .i64 1)))]),
 i1 4 (.allocL [.sl true 6 0 [], .int .i64 0]),
 i0 (.store 2 (.t 4) (.t 30))] [2, 3, 4])
 (.seq (.reg none [i1 32 (.load 2 true (.t 4)),
 i1 33 (.call 10 [(.t 32)]),
 i1 34 (.build [.int .i64 0, .sl false 1 0 [], .int .i64 0, .int .i64 0, .str [], .sl false 4 0 []] [(0, 1, (.c (.int .i64 1)))]),
 i1 35 (.call 9 [(.t 33), (.t 34)]),
 i1 31 (.movT (.t 35)),
 i1 36 (.extract (.t 31) 0),
 i1 37 (.extract (.t 31) 1),
 i1 38 (.extract (.t 31) 2),
 i1 39 (.extract (.t 31) 3),
 mt 5 36,
 mt 6 37,
 mv 7 38,
 mv 8 39] [2, 3, 5, 6, 7, 8])
 (.seq (.reg (some 31) [mv 40 5,
 i1 41 (.buildSl 1 3 [.int .i64 0, .int .i64 0, .int .i64 0] [(0, 1, (.c (.int .i64 1))), (1, 1, (.c (.int .i64 2))), (2, 1, (.c (.int .i64 3)))]),
 i1 42 (.call 14 [(.t 40), (.t 41)]),
 mv 43 42,
 mvg 44 6 43 true,
 i1g 45 43 true (.len 0 (.t 44)),
 i1g 46 43 true (.bin .eql (.t 45) (.c (.int .i64 3))),
 i1 47 (.pick (.t 43) (.t 46) (.c (.bool false))),
 mv 48 47,
 mvg 49 7 48 true,
 i1g 50 48 true (.bin .eql (.t 49) (.c (.int .i64 0))),
 i1 51 (.pick (.t 48) (.t 50) (.c (.bool false))),
 mv 52 51,
 mvg 53 8 52 true,
 i1g 54 52 true (.bin .eql (.t 53) (.c (.int .i64 0))),
 i1 55 (.pick (.t 52) (.t 54) (.c (.bool false))),
 mv 56 55,
 i1g 57 56 true (.load 4 true (.t 3)),
 i1g 58 56 true (.call 30 [(.t 57)]),
 i1g 59 56 true (.buildSl 1 3 [.int .i64 0, .int .i64 0, .int .i64 0] [(0, 1, (.c (.int .i64 2))), (1, 1, (.c (.int .i64 1))), (2, 1, (.c (.int .i64 9)))]),
 i1g 60 56 true (.call 14 [(.t 58), (.t 59)]),
 i1 61 (.pick (.t 56) (.t 60) (.c (.bool false))),
 mv 62 61,
 i1g 63 62 true (.load 4 true (.t 3)),
 mvg 64 2 62 true,
 i1g 65 62 true (.callv (.t 64) [(.c (.int .i64 4))]),
 i1g 66 62 true (.call 31 [(.t 63), (.t 65)]),
 i1g 67 62 true (.buildSl 1 3 [.int .i64 0, .int .i64 0, .int .i64 0] [(0, 1, (.c (.int .i64 2))), (1, 1, (.c (.int .i64 1))), (2, 1, (.c (.int .i64 4)))]),
 i1g 68 62 true (.call 14 [(.t 66), (.t 67)]),
 i1 69 (.pick (.t 62) (.t 68) (.c (.bool false))),
 mv 0 69] [0])
 .ret))))))
def res_law21_works : List IRes := [⟨0, true, none⟩]
theorem is_law21_works : fnIs Go.Proofs.Tryz.prog 8 70 res_law21_works ir_law21_works = true := by kernel_rfl
theorem law21_works_fn  {s : Store} {Q : List AV → Store → Prop}  : ok (law21_works ) (fun r => Q [.bool r] s) → FN Go.Proofs.Tryz.prog 8 [] s Q := by
  intro h
  refine FN.forget ?_
  refine FN.of (draw_ok mix) is_law21_works rfl (Nat.le_of_ble_eq_true rfl) ?_
  revert h
  rw [ir_law21_works, res_law21_works, law21_works]
  repeat' (first
    | with_reducible exact tt_to
    | ((with_reducible refine b_to ?_ ?_); exact rfl)
    | ((with_reducible refine n_to ?_ ?_); exact rfl)
    | with_reducible refine and_to ?_ ?_
    | with_reducible refine im_to ?_
    | with_reducible refine call_to (fun _ (h : value_NameOf (Str.mk [80, 97, 114, 101, 110, 116]) = some _) => value_NameOf_fe h) (fun r1 => ?_)
    | with_reducible refine call_to_q (fun _ (h : value_NameOf (Str.mk [80, 97, 114, 101, 110, 116]) = some _) => value_NameOf_fe h) (fun _ => rfl) (fun r1 => ?_)
    | with_reducible refine call_to (fun _ (h : value_NameOf (Str.mk [80, 97, 114, 101, 110, 116]) = some _) => (by refine FE_cast ?_ (value_NameOf_fe h); simp -implicitDefEqProofs only [go_sem, start, startE, resVs, resV, resC, allV, retK, Nat.reduceBEq, Nat.reduceAdd, Nat.reduceMul, Nat.reduceLeDiff, Nat.reduceEqDiff, Nat.reduceBNe, Nat.ble_eq, UInt8.reduceToNat, fnok_27, fnok_28])) (fun r1 => ?_)
    | with_reducible refine call_to_q (fun _ (h : value_NameOf (Str.mk [80, 97, 114, 101, 110, 116]) = some _) => (by refine FE_cast ?_ (value_NameOf_fe h); simp -implicitDefEqProofs only [go_sem, start, startE, resVs, resV, resC, allV, retK, Nat.reduceBEq, Nat.reduceAdd, Nat.reduceMul, Nat.reduceLeDiff, Nat.reduceEqDiff, Nat.reduceBNe, Nat.ble_eq, UInt8.reduceToNat, fnok_27, fnok_28])) (fun _ => rfl) (fun r1 => ?_)
    | with_reducible refine call_to (fun _ (h : value_RefTo 9 = some _) => value_RefTo_fe h) (fun r2 => ?_)
    | with_reducible refine call_to_q (fun _ (h : value_RefTo 9 = some _) => value_RefTo_fe h) (fun _ => rfl) (fun r2 => ?_)
    | with_reducible refine call_to (fun _ (h : value_RefTo 9 = some _) => (by refine FE_cast ?_ (value_RefTo_fe h); simp -implicitDefEqProofs only [go_sem, start, startE, resVs, resV, resC, allV, retK, Nat.reduceBEq, Nat.reduceAdd, Nat.reduceMul, Nat.reduceLeDiff, Nat.reduceEqDiff, Nat.reduceBNe, Nat.ble_eq, UInt8.reduceToNat, fnok_27, fnok_28])) (fun r2 => ?_)
    | with_reducible refine call_to_q (fun _ (h : value_RefTo 9 = some _) => (by refine FE_cast ?_ (value_RefTo_fe h); simp -implicitDefEqProofs only [go_sem, start, startE, resVs, resV, resC, allV, retK, Nat.reduceBEq, Nat.reduceAdd, Nat.reduceMul, Nat.reduceLeDiff, Nat.reduceEqDiff, Nat.reduceBNe, Nat.ble_eq, UInt8.reduceToNat, fnok_27, fnok_28])) (fun _ => rfl) (fun r2 => ?_)
    | with_reducible refine call_to (fun _ (h : value_NameOf (Str.mk [65]) = some _) => value_NameOf_fe h) (fun r3 => ?_)
    | with_reducible refine call_to_q (fun _ (h : value_NameOf (Str.mk [65]) = some _) => value_NameOf_fe h) (fun _ => rfl) (fun r3 => ?_)
    | with_reducible refine call_to (fun _ (h : value_NameOf (Str.mk [65]) = some _) => (by refine FE_cast ?_ (value_NameOf_fe h); simp -implicitDefEqProofs only [go_sem, start, startE, resVs, resV, resC, allV, retK, Nat.reduceBEq, Nat.reduceAdd, Nat.reduceMul, Nat.reduceLeDiff, Nat.reduceEqDiff, Nat.reduceBNe, Nat.ble_eq, UInt8.reduceToNat, fnok_27, fnok_28])) (fun r3 => ?_)
    | with_reducible refine call_to_q (fun _ (h : value_NameOf (Str.mk [65]) = some _) => (by refine FE_cast ?_ (value_NameOf_fe h); simp -implicitDefEqProofs only [go_sem, start, startE, resVs, resV, resC, allV, retK, Nat.reduceBEq, Nat.reduceAdd, Nat.reduceMul, Nat.reduceLeDiff, Nat.reduceEqDiff, Nat.reduceBNe, Nat.ble_eq, UInt8.reduceToNat, fnok_27, fnok_28])) (fun _ => rfl) (fun r3 => ?_)
    | with_reducible refine call_to (fun _ (h : value_RefTo 2 = some _) => value_RefTo_fe h) (fun r4 => ?_)
    | with_reducible refine call_to_q (fun _ (h : value_RefTo 2 = some _) => value_RefTo_fe h) (fun _ => rfl) (fun r4 => ?_)
    | with_reducible refine call_to (fun _ (h : value_RefTo 2 = some _) => (by refine FE_cast ?_ (value_RefTo_fe h); simp -implicitDefEqProofs only [go_sem, start, startE, resVs, resV, resC, allV, retK, Nat.reduceBEq, Nat.reduceAdd, Nat.reduceMul, Nat.reduceLeDiff, Nat.reduceEqDiff, Nat.reduceBNe, Nat.ble_eq, UInt8.reduceToNat, fnok_27, fnok_28])) (fun r4 => ?_)
    | with_reducible refine call_to_q (fun _ (h : value_RefTo 2 = some _) => (by refine FE_cast ?_ (value_RefTo_fe h); simp -implicitDefEqProofs only [go_sem, start, startE, resVs, resV, resC, allV, retK, Nat.reduceBEq, Nat.reduceAdd, Nat.reduceMul, Nat.reduceLeDiff, Nat.reduceEqDiff, Nat.reduceBNe, Nat.ble_eq, UInt8.reduceToNat, fnok_27, fnok_28])) (fun _ => rfl) (fun r4 => ?_)
    | with_reducible refine call_to (fun _ (h : value_NameOf (Str.mk [66]) = some _) => value_NameOf_fe h) (fun r5 => ?_)
    | with_reducible refine call_to_q (fun _ (h : value_NameOf (Str.mk [66]) = some _) => value_NameOf_fe h) (fun _ => rfl) (fun r5 => ?_)
    | with_reducible refine call_to (fun _ (h : value_NameOf (Str.mk [66]) = some _) => (by refine FE_cast ?_ (value_NameOf_fe h); simp -implicitDefEqProofs only [go_sem, start, startE, resVs, resV, resC, allV, retK, Nat.reduceBEq, Nat.reduceAdd, Nat.reduceMul, Nat.reduceLeDiff, Nat.reduceEqDiff, Nat.reduceBNe, Nat.ble_eq, UInt8.reduceToNat, fnok_27, fnok_28])) (fun r5 => ?_)
    | with_reducible refine call_to_q (fun _ (h : value_NameOf (Str.mk [66]) = some _) => (by refine FE_cast ?_ (value_NameOf_fe h); simp -implicitDefEqProofs only [go_sem, start, startE, resVs, resV, resC, allV, retK, Nat.reduceBEq, Nat.reduceAdd, Nat.reduceMul, Nat.reduceLeDiff, Nat.reduceEqDiff, Nat.reduceBNe, Nat.ble_eq, UInt8.reduceToNat, fnok_27, fnok_28])) (fun _ => rfl) (fun r5 => ?_)
    | with_reducible refine call_to (fun _ (h : value_RefTo 1 = some _) => value_RefTo_fe h) (fun r6 => ?_)
    | with_reducible refine call_to_q (fun _ (h : value_RefTo 1 = some _) => value_RefTo_fe h) (fun _ => rfl) (fun r6 => ?_)
    | with_reducible refine call_to (fun _ (h : value_RefTo 1 = some _) => (by refine FE_cast ?_ (value_RefTo_fe h); simp -implicitDefEqProofs only [go_sem, start, startE, resVs, resV, resC, allV, retK, Nat.reduceBEq, Nat.reduceAdd, Nat.reduceMul, Nat.reduceLeDiff, Nat.reduceEqDiff, Nat.reduceBNe, Nat.ble_eq, UInt8.reduceToNat, fnok_27, fnok_28])) (fun r6 => ?_)
    | with_reducible refine call_to_q (fun _ (h : value_RefTo 1 = some _) => (by refine FE_cast ?_ (value_RefTo_fe h); simp -implicitDefEqProofs only [go_sem, start, startE, resVs, resV, resC, allV, retK, Nat.reduceBEq, Nat.reduceAdd, Nat.reduceMul, Nat.reduceLeDiff, Nat.reduceEqDiff, Nat.reduceBNe, Nat.ble_eq, UInt8.reduceToNat, fnok_27, fnok_28])) (fun _ => rfl) (fun r6 => ?_)
    | with_reducible refine call_to (fun _ (h : value_DictOf [r1, r2, r3, r4, r5, r6] = some _) => value_DictOf_fe h) (fun r7 => ?_)
    | with_reducible refine call_to_q (fun _ (h : value_DictOf [r1, r2, r3, r4, r5, r6] = some _) => value_DictOf_fe h) (fun _ => rfl) (fun r7 => ?_)
    | with_reducible refine call_to (fun _ (h : value_DictOf [r1, r2, r3, r4, r5, r6] = some _) => (by refine FE_cast ?_ (value_DictOf_fe h); simp -implicitDefEqProofs only [go_sem, start, startE, resVs, resV, resC, allV, retK, Nat.reduceBEq, Nat.reduceAdd, Nat.reduceMul, Nat.reduceLeDiff, Nat.reduceEqDiff, Nat.reduceBNe, Nat.ble_eq, UInt8.reduceToNat, fnok_27, fnok_28])) (fun r7 => ?_)
    | with_reducible refine call_to_q (fun _ (h : value_DictOf [r1, r2, r3, r4, r5, r6] = some _) => (by refine FE_cast ?_ (value_DictOf_fe h); simp -implicitDefEqProofs only [go_sem, start, startE, resVs, resV, resC, allV, retK, Nat.reduceBEq, Nat.reduceAdd, Nat.reduceMul, Nat.reduceLeDiff, Nat.reduceEqDiff, Nat.reduceBNe, Nat.ble_eq, UInt8.reduceToNat, fnok_27, fnok_28])) (fun _ => rfl) (fun r7 => ?_)
    | with_reducible refine call_to (fun _ (h : value_RefTo 3 = some _) => value_RefTo_fe h) (fun r8 => ?_)
    | with_reducible refine call_to_q (fun _ (h : value_RefTo 3 = some _) => value_RefTo_fe h) (fun _ => rfl) (fun r8 => ?_)
    | with_reducible refine call_to (fun _ (h : value_RefTo 3 = some _) => (by refine FE_cast ?_ (value_RefTo_fe h); simp -implicitDefEqProofs only [go_sem, start, startE, resVs, resV, resC, allV, retK, Nat.reduceBEq, Nat.reduceAdd, Nat.reduceMul, Nat.reduceLeDiff, Nat.reduceEqDiff, Nat.reduceBNe, Nat.ble_eq, UInt8.reduceToNat, fnok_27, fnok_28])) (fun r8 => ?_)
    | with_reducible refine call_to_q (fun _ (h : value_RefTo 3 = some _) => (by refine FE_cast ?_ (value_RefTo_fe h); simp -implicitDefEqProofs only [go_sem, start, startE, resVs, resV, resC, allV, retK, Nat.reduceBEq, Nat.reduceAdd, Nat.reduceMul, Nat.reduceLeDiff, Nat.reduceEqDiff, Nat.reduceBNe, Nat.ble_eq, UInt8.reduceToNat, fnok_27, fnok_28])) (fun _ => rfl) (fun r8 => ?_)
    | with_reducible refine fun hh => file_Of_fn (ok_mono (show ok (file_Of (api_Doc.mk [(api_Object.mk r7 false (Str.mk [])), (api_Object.mk r8 false (Str.mk [])), (api_Object.mk (api_Value.mk 0 0 (Str.mk []) ([] : List api_Value)) false (Str.mk []))] 1)) _ from hh) fun r9 => ?_)
    | with_reducible refine fun hh => FN_cast (by simp -implicitDefEqProofs only [go_sem, start, startE, resVs, resV, resC, allV, retK, Nat.reduceBEq, Nat.reduceAdd, Nat.reduceMul, Nat.reduceLeDiff, Nat.reduceEqDiff, Nat.reduceBNe, Nat.ble_eq, UInt8.reduceToNat, fnok_27, fnok_28]) (file_Of_fn (ok_mono (show ok (file_Of (api_Doc.mk [(api_Object.mk r7 false (Str.mk [])), (api_Object.mk r8 false (Str.mk [])), (api_Object.mk (api_Value.mk 0 0 (Str.mk []) ([] : List api_Value)) false (Str.mk []))] 1)) _ from hh) fun r9 => ?_))
    | with_reducible refine call_to (fun _ (h : reach_Closure r9 (tree_Leaf.mk 1 ([] : List Int) (api_Value.mk 0 0 (Str.mk []) ([] : List api_Value))) = some _) => reach_Closure_fe (B0 := N2) (B0_get_ := N1) (by simp -implicitDefEqProofs only [go_sem, start, startE, resVs, resV, resC, allV, retK, Nat.reduceBEq, Nat.reduceAdd, Nat.reduceMul, Nat.reduceLeDiff, Nat.reduceEqDiff, Nat.reduceBNe, Nat.ble_eq, UInt8.reduceToNat, set_ne nN2N1, set_ne nN2N1.symm, set_comm nN2N1.symm, fnok_27, fnok_28] <;> simp only [encM_nil]) (by simp -implicitDefEqProofs only [go_sem, start, startE, resVs, resV, resC, allV, retK, Nat.reduceBEq, Nat.reduceAdd, Nat.reduceMul, Nat.reduceLeDiff, Nat.reduceEqDiff, Nat.reduceBNe, Nat.ble_eq, UInt8.reduceToNat, set_ne nN2N1, set_ne nN2N1.symm, set_comm nN2N1.symm, fnok_27, fnok_28] <;> simp only [encM_nil]) nN2N1 h) (fun r10 => ?_)
    | with_reducible refine call_to_q (fun _ (h : reach_Closure r9 (tree_Leaf.mk 1 ([] : List Int) (api_Value.mk 0 0 (Str.mk []) ([] : List api_Value))) = some _) => reach_Closure_fe (B0 := N2) (B0_get_ := N1) (by simp -implicitDefEqProofs only [go_sem, start, startE, resVs, resV, resC, allV, retK, Nat.reduceBEq, Nat.reduceAdd, Nat.reduceMul, Nat.reduceLeDiff, Nat.reduceEqDiff, Nat.reduceBNe, Nat.ble_eq, UInt8.reduceToNat, set_ne nN2N1, set_ne nN2N1.symm, set_comm nN2N1.symm, fnok_27, fnok_28] <;> simp only [encM_nil]) (by simp -implicitDefEqProofs only [go_sem, start, startE, resVs, resV, resC, allV, retK, Nat.reduceBEq, Nat.reduceAdd, Nat.reduceMul, Nat.reduceLeDiff, Nat.reduceEqDiff, Nat.reduceBNe, Nat.ble_eq, UInt8.reduceToNat, set_ne nN2N1, set_ne nN2N1.symm, set_comm nN2N1.symm, fnok_27, fnok_28] <;> simp only [encM_nil]) nN2N1 h) (fun _ => rfl) (fun r10 => ?_)
    | with_reducible refine call_to (fun _ (h : reach_Closure r9 (tree_Leaf.mk 1 ([] : List Int) (api_Value.mk 0 0 (Str.mk []) ([] : List api_Value))) = some _) => (by refine FE_cast ?_ (reach_Closure_fe (B0 := N2) (B0_get_ := N1) (by simp -implicitDefEqProofs only [go_sem, start, startE, resVs, resV, resC, allV, retK, Nat.reduceBEq, Nat.reduceAdd, Nat.reduceMul, Nat.reduceLeDiff, Nat.reduceEqDiff, Nat.reduceBNe, Nat.ble_eq, UInt8.reduceToNat, set_ne nN2N1, set_ne nN2N1.symm, set_comm nN2N1.symm, fnok_27, fnok_28] <;> simp only [encM_nil]) (by simp -implicitDefEqProofs only [go_sem, start, startE, resVs, resV, resC, allV, retK, Nat.reduceBEq, Nat.reduceAdd, Nat.reduceMul, Nat.reduceLeDiff, Nat.reduceEqDiff, Nat.reduceBNe, Nat.ble_eq, UInt8.reduceToNat, set_ne nN2N1, set_ne nN2N1.symm, set_comm nN2N1.symm, fnok_27, fnok_28] <;> simp only [encM_nil]) nN2N1 h); simp -implicitDefEqProofs only [go_sem, start, startE, resVs, resV, resC, allV, retK, Nat.reduceBEq, Nat.reduceAdd, Nat.reduceMul, Nat.reduceLeDiff, Nat.reduceEqDiff, Nat.reduceBNe, Nat.ble_eq, UInt8.reduceToNat, set_ne nN2N1, set_ne nN2N1.symm, set_comm nN2N1.symm, fnok_27, fnok_28])) (fun r10 => ?_)
    | with_reducible refine call_to (fun _ (h : ref21_Same r10.1 [1, 2, 3] = some _) => ref21_Same_fe h) (fun r11 => ?_)
    | with_reducible refine call_to_q (fun _ (h : ref21_Same r10.1 [1, 2, 3] = some _) => ref21_Same_fe h) (fun _ => rfl) (fun r11 => ?_)
    | with_reducible refine call_to (fun _ (h : ref21_Same r10.1 [1, 2, 3] = some _) => (by refine FE_cast ?_ (ref21_Same_fe h); simp -implicitDefEqProofs only [go_sem, start, startE, resVs, resV, resC, allV, retK, Nat.reduceBEq, Nat.reduceAdd, Nat.reduceMul, Nat.reduceLeDiff, Nat.reduceEqDiff, Nat.reduceBNe, Nat.ble_eq, UInt8.reduceToNat, fnok_27, fnok_28])) (fun r11 => ?_)
    | with_reducible refine call_to_q (fun _ (h : ref21_Same r10.1 [1, 2, 3] = some _) => (by refine FE_cast ?_ (ref21_Same_fe h); simp -implicitDefEqProofs only [go_sem, start, startE, resVs, resV, resC, allV, retK, Nat.reduceBEq, Nat.reduceAdd, Nat.reduceMul, Nat.reduceLeDiff, Nat.reduceEqDiff, Nat.reduceBNe, Nat.ble_eq, UInt8.reduceToNat, fnok_27, fnok_28])) (fun _ => rfl) (fun r11 => ?_)
    | with_reducible refine call_to_g rfl (fun _ (h : reach_Next r7 = some _) => reach_Next_fe h) (fun _ => rfl) (fun r12 => ?_)
    | with_reducible refine call_to_g rfl (fun _ (h : reach_Next r7 = some _) => (by refine FE_cast ?_ (reach_Next_fe h); simp -implicitDefEqProofs only [go_sem, start, startE, resVs, resV, resC, allV, retK, Nat.reduceBEq, Nat.reduceAdd, Nat.reduceMul, Nat.reduceLeDiff, Nat.reduceEqDiff, Nat.reduceBNe, Nat.ble_eq, UInt8.reduceToNat, fnok_27, fnok_28])) (fun _ => rfl) (fun r12 => ?_)
    | with_reducible refine call_to_g rfl (fun _ (h : ref21_Same r12 [2, 1, 9] = some _) => ref21_Same_fe h) (fun _ => rfl) (fun r13 => ?_)
    | with_reducible refine call_to_g rfl (fun _ (h : ref21_Same r12 [2, 1, 9] = some _) => (by refine FE_cast ?_ (ref21_Same_fe h); simp -implicitDefEqProofs only [go_sem, start, startE, resVs, resV, resC, allV, retK, Nat.reduceBEq, Nat.reduceAdd, Nat.reduceMul, Nat.reduceLeDiff, Nat.reduceEqDiff, Nat.reduceBNe, Nat.ble_eq, UInt8.reduceToNat, fnok_27, fnok_28])) (fun _ => rfl) (fun r13 => ?_)
    | with_reducible refine call_to_g rfl (fun _ (h : value_RefTo 4 = some _) => value_RefTo_fe h) (fun _ => rfl) (fun r14 => ?_)
    | with_reducible refine call_to_g rfl (fun _ (h : value_RefTo 4 = some _) => (by refine FE_cast ?_ (value_RefTo_fe h); simp -implicitDefEqProofs only [go_sem, start, startE, resVs, resV, resC, allV, retK, Nat.reduceBEq, Nat.reduceAdd, Nat.reduceMul, Nat.reduceLeDiff, Nat.reduceEqDiff, Nat.reduceBNe, Nat.ble_eq, UInt8.reduceToNat, fnok_27, fnok_28])) (fun _ => rfl) (fun r14 => ?_)
    | with_reducible refine call_to_gv (fun _ => callee_w (by simp -implicitDefEqProofs only [go_sem, start, startE, resVs, resV, resC, allV, retK, Nat.reduceBEq, Nat.reduceAdd, Nat.reduceMul, Nat.reduceLeDiff, Nat.reduceEqDiff, Nat.reduceBNe, Nat.ble_eq, UInt8.reduceToNat, fnok_27, fnok_28]) (by simp -implicitDefEqProofs only [go_sem, start, startE, resVs, resV, resC, allV, retK, Nat.reduceBEq, Nat.reduceAdd, Nat.reduceMul, Nat.reduceLeDiff, Nat.reduceEqDiff, Nat.reduceBNe, Nat.ble_eq, UInt8.reduceToNat, fnok_27, fnok_28])) (of_eq_true fnok_28) (fun _ (h : value_RefTo 4 = some _) => value_RefTo_fe h) (fun _ => rfl) (fun r14 => ?_)
    | with_reducible refine call_to_g rfl (fun _ (h : reach_First r7 r14 = some _) => reach_First_fe h) (fun _ => rfl) (fun r15 => ?_)
    | with_reducible refine call_to_g rfl (fun _ (h : reach_First r7 r14 = some _) => (by refine FE_cast ?_ (reach_First_fe h); simp -implicitDefEqProofs only [go_sem, start, startE, resVs, resV, resC, allV, retK, Nat.reduceBEq, Nat.reduceAdd, Nat.reduceMul, Nat.reduceLeDiff, Nat.reduceEqDiff, Nat.reduceBNe, Nat.ble_eq, UInt8.reduceToNat, fnok_27, fnok_28])) (fun _ => rfl) (fun r15 => ?_)
    | with_reducible refine call_to_g rfl (fun _ (h : ref21_Same r15 [2, 1, 4] = some _) => ref21_Same_fe h) (fun _ => rfl) (fun r16 => ?_)
    | with_reducible refine call_to_g rfl (fun _ (h : ref21_Same r15 [2, 1, 4] = some _) => (by refine FE_cast ?_ (ref21_Same_fe h); simp -implicitDefEqProofs only [go_sem, start, startE, resVs, resV, resC, allV, retK, Nat.reduceBEq, Nat.reduceAdd, Nat.reduceMul, Nat.reduceLeDiff, Nat.reduceEqDiff, Nat.reduceBNe, Nat.ble_eq, UInt8.reduceToNat, fnok_27, fnok_28])) (fun _ => rfl) (fun r16 => ?_)
    | ((fail_if_success (have _x := sN1)); with_reducible intro hh N1 hN1; (try simp only [set_none] at hN1); have sN1 := hN1; revert hh)
    | (have _x := sN1; clear _x; (fail_if_success (have _x := sN2)); with_reducible intro hh N2 hN2; (try simp only [set_none] at hN2); obtain ⟨nN2N1, sN2⟩ := hN2; revert hh)
    | with_reducible exact fun hh => ⟨_, SubS.set (SubS.set (SubS.refl _) (by simp [Store.set, sN1])) (by simp [Store.set, sN2]), hh⟩
    | with_reducible exact fun hh => ⟨_, SubS.set (SubS.refl _) (by simp [Store.set, sN1]), hh⟩
    | with_reducible exact fun hh => ⟨_, SubS.refl _, hh⟩
    | simp -implicitDefEqProofs only [go_sem, start, startE, resVs, resV, resC, allV, retK, Nat.reduceBEq, Nat.reduceAdd, Nat.reduceMul, Nat.reduceLeDiff, Nat.reduceEqDiff, Nat.reduceBNe, Nat.ble_eq, UInt8.reduceToNat, set_ne nN2N1, set_ne nN2N1.symm, set_comm nN2N1.symm, fnok_27, fnok_28]
    | simp -implicitDefEqProofs only [go_sem, start, startE, resVs, resV, resC, allV, retK, Nat.reduceBEq, Nat.reduceAdd, Nat.reduceMul, Nat.reduceLeDiff, Nat.reduceEqDiff, Nat.reduceBNe, Nat.ble_eq, UInt8.reduceToNat, fnok_27, fnok_28]
    | simp -implicitDefEqProofs only [go_sem, start, startE, resVs, resV, resC, allV, retK, Nat.reduceBEq, Nat.reduceAdd, Nat.reduceMul, Nat.reduceLeDiff, Nat.reduceEqDiff, Nat.reduceBNe, Nat.ble_eq, UInt8.reduceToNat, fnok_27, fnok_28])
theorem law21_works_fe  {s : Store} {r : Bool}  (h : law21_works  = some r) : FE Go.Proofs.Tryz.prog 8 [] s [.bool r] s := law21_works_fn   ⟨r, h, rfl, rfl⟩
/-- catchword/catchwordlaw21.to -/
def law21_to (l_0 : ref20_Leaf) : Option (tree_Leaf) :=
  some (tree_Leaf.mk l_0.Page l_0.Path l_0.Given)
def ir_law21_to : IC :=
 (.seq (.reg none [i1 1 (.boxL 6 (.t 0)),
 i1 2 (.allocL [.int .i64 0, .sl true 1 0 [], .int .i64 0, .int .i64 0, .str [], .sl true 4 0 []])] [1, 2])
 (.seq (.reg none [i1 3 (.fieldAddr 0 (.t 1)),
 i1 4 (.load 1 false (.t 3)),
 i1 5 (.fieldAddr 1 (.t 1)),
 i1 6 (.load 1 false (.t 5)),
 i1 7 (.fieldAddr 2 (.t 1)),
 i1 8 (.load 4 true (.t 7)),
 i1 9 (.build [.int .i64 0, .sl true 1 0 [], .int .i64 0, .int .i64 0, .str [], .sl true 4 0 []] [(0, 1, (.t 4)), (1, 1, (.t 6)), (2, 4, (.t 8))]),
 i0 (.store 6 (.t 2) (.t 9))] [2])
 .ret))
def res_law21_to : List IRes := [⟨2, false, some (6, true)⟩]
theorem is_law21_to : fnIs Go.Proofs.Tryz.prog 11 10 res_law21_to ir_law21_to = true := by kernel_rfl
theorem law21_to_fn {l_0} {s : Store} {Q : List AV → Store → Prop}  : ok (law21_to l_0) (fun r => Q [.agg [.int .i64 r.Page, .sl false 1 r.Path.length (flat r.Path), .int .i64 r.Given.Kind, .int .i64 r.Given.N, .str r.Given.S.b, .sl false 4 r.Given.L.length (flat r.Given.L)]] s) → FN Go.Proofs.Tryz.prog 11 [.agg [.int .i64 l_0.Page, .sl false 1 l_0.Path.length (flat l_0.Path), .int .i64 l_0.Given.Kind, .int .i64 l_0.Given.N, .str l_0.Given.S.b, .sl false 4 l_0.Given.L.length (flat l_0.Given.L)]] s Q := by
  intro h
  refine FN.of (draw_ok mix) is_law21_to rfl (Nat.le_of_ble_eq_true rfl) ?_
  revert h
  rw [ir_law21_to, res_law21_to, law21_to]
  repeat' (first
    | with_reducible exact tt_to
    | with_reducible refine and_to ?_ ?_
    | with_reducible refine im_to ?_
    | simp -implicitDefEqProofs only [go_sem, start, startE, resVs, resV, resC, allV, retK, Nat.reduceBEq, Nat.reduceAdd, Nat.reduceMul, Nat.reduceLeDiff, Nat.reduceEqDiff, Nat.reduceBNe, Nat.ble_eq, UInt8.reduceToNat])
theorem law21_to_fe {l_0} {s : Store} {r : tree_Leaf}  (h : law21_to l_0 = some r) : FE Go.Proofs.Tryz.prog 11 [.agg [.int .i64 l_0.Page, .sl false 1 l_0.Path.length (flat l_0.Path), .int .i64 l_0.Given.Kind, .int .i64 l_0.Given.N, .str l_0.Given.S.b, .sl false 4 l_0.Given.L.length (flat l_0.Given.L)]] s [.agg [.int .i64 r.Page, .sl false 1 r.Path.length (flat r.Path), .int .i64 r.Given.Kind, .int .i64 r.Given.N, .str r.Given.S.b, .sl false 4 r.Given.L.length (flat r.Given.L)]] s := law21_to_fn   ⟨r, h, rfl, rfl⟩
structure ref16_File where
  B : (List UInt8)
  Known : (List Bool)
instance : Enc ref16_File := ⟨2, fun x => [.sl false 1 x.B.length (flat x.B), .sl false 1 x.Known.length (flat x.Known)], (ref16_File.mk [] []), by decide, fun _ => rfl, fun _ => rfl⟩
@[go_sem] theorem cells_ref16_File (x : ref16_File) : Enc.cells x = [.sl false 1 x.B.length (flat x.B), .sl false 1 x.Known.length (flat x.Known)] := rfl
@[go_sem] theorem w_ref16_File : Enc.w ref16_File = 2 := rfl
@[go_sem] theorem pad_ref16_File (l : List ref16_File) (i : Int) : pad [.sl false 1 0 [], .sl false 1 0 []] (views (AB.sub (flat l) (i.toNat * 2) 2)) = [.sl false 1 ((ix l i).B).length (flat ((ix l i).B)), .sl false 1 ((ix l i).Known).length (flat ((ix l i).Known))] := by
  rw [← cells_ref16_File]; exact flat_pad _ 2 l i (by rw [cells_ref16_File]; rfl) rfl
@[go_sem] theorem mk_ref16_File (x : ref16_File) : ref16_File.mk x.B x.Known = x := by cases x; rfl
structure ref17_Table where
  Places : (List Int)
  Root : Int
instance : Enc ref17_Table := ⟨2, fun x => [.sl false 1 x.Places.length (flat x.Places), .int .i64 x.Root], (ref17_Table.mk [] 0), by decide, fun _ => rfl, fun _ => rfl⟩
@[go_sem] theorem cells_ref17_Table (x : ref17_Table) : Enc.cells x = [.sl false 1 x.Places.length (flat x.Places), .int .i64 x.Root] := rfl
@[go_sem] theorem w_ref17_Table : Enc.w ref17_Table = 2 := rfl
@[go_sem] theorem pad_ref17_Table (l : List ref17_Table) (i : Int) : pad [.sl false 1 0 [], .int .i64 0] (views (AB.sub (flat l) (i.toNat * 2) 2)) = [.sl false 1 ((ix l i).Places).length (flat ((ix l i).Places)), .int .i64 ((ix l i).Root)] := by
  rw [← cells_ref17_Table]; exact flat_pad _ 2 l i (by rw [cells_ref17_Table]; rfl) rfl
@[go_sem] theorem mk_ref17_Table (x : ref17_Table) : ref17_Table.mk x.Places x.Root = x := by cases x; rfl
structure ref19_File where
  Objects : (List api_Object)
  Bytes : ref16_File
  Table : ref17_Table
instance : Enc ref19_File := ⟨6, fun x => [.bool true, .sl false 6 x.Objects.length (flat x.Objects), .sl false 1 x.Bytes.B.length (flat x.Bytes.B), .sl false 1 x.Bytes.Known.length (flat x.Bytes.Known), .sl false 1 x.Table.Places.length (flat x.Table.Places), .int .i64 x.Table.Root], (ref19_File.mk [] (ref16_File.mk [] []) (ref17_Table.mk [] 0)), by decide, fun _ => rfl, fun _ => rfl⟩
@[go_sem] theorem cells_ref19_File (x : ref19_File) : Enc.cells x = [.bool true, .sl false 6 x.Objects.length (flat x.Objects), .sl false 1 x.Bytes.B.length (flat x.Bytes.B), .sl false 1 x.Bytes.Known.length (flat x.Bytes.Known), .sl false 1 x.Table.Places.length (flat x.Table.Places), .int .i64 x.Table.Root] := rfl
@[go_sem] theorem w_ref19_File : Enc.w ref19_File = 6 := rfl
@[go_sem] theorem mk_ref19_File (x : ref19_File) : ref19_File.mk x.Objects x.Bytes x.Table = x := by cases x; rfl
/-- catchword/catchwordref19.Of -/
def ref19_Of (d_0 : api_Doc) : Option (ref19_File) :=
  some (ref19_File.mk d_0.Objects (ref16_File.mk ([] : List UInt8) ([] : List Bool)) (ref17_Table.mk ([] : List Int) d_0.Root))
def ir_ref19_Of : IC :=
 (.seq (.reg none [i1 1 (.boxL 2 (.t 0)),
 i1 2 (.allocL [.bool false, .sl true 6 0 [], .sl true 1 0 [], .sl true 1 0 [], .sl true 1 0 [], .int .i64 0])] [1, 2])
 (.seq (.reg none [i1 3 (.fieldAddr 0 (.t 1)),
 i1 4 (.load 1 false (.t 3)),
 i1 5 (.fieldAddr 1 (.t 1)),
 i1 6 (.load 1 false (.t 5)),
 i1 7 (.build [.sl true 1 0 [], .int .i64 0] [(1, 1, (.t 6))]),
 i1 8 (.build [.bool false, .sl true 6 0 [], .sl true 1 0 [], .sl true 1 0 [], .sl true 1 0 [], .int .i64 0] [(0, 1, (.c (.bool true))), (1, 1, (.t 4)), (4, 2, (.t 7))]),
 i0 (.store 6 (.t 2) (.t 8))] [2])
 .ret))
def res_ref19_Of : List IRes := [⟨2, false, some (6, true)⟩]
theorem is_ref19_Of : fnIs Go.Proofs.Tryz.prog 13 9 res_ref19_Of ir_ref19_Of = true := by kernel_rfl
theorem ref19_Of_fn {d_0} {s : Store} {Q : List AV → Store → Prop}  : ok (ref19_Of d_0) (fun r => Q [.agg [.bool true, .sl false 6 r.Objects.length (flat r.Objects), .sl false 1 r.Bytes.B.length (flat r.Bytes.B), .sl false 1 r.Bytes.Known.length (flat r.Bytes.Known), .sl false 1 r.Table.Places.length (flat r.Table.Places), .int .i64 r.Table.Root]] s) → FN Go.Proofs.Tryz.prog 13 [.agg [.sl false 6 d_0.Objects.length (flat d_0.Objects), .int .i64 d_0.Root]] s Q := by
  intro h
  refine FN.of (draw_ok mix) is_ref19_Of rfl (Nat.le_of_ble_eq_true rfl) ?_
  revert h
  rw [ir_ref19_Of, res_ref19_Of, ref19_Of]
  repeat' (first
    | with_reducible exact tt_to
    | with_reducible refine and_to ?_ ?_
    | with_reducible refine im_to ?_
    | simp -implicitDefEqProofs only [go_sem, start, startE, resVs, resV, resC, allV, retK, Nat.reduceBEq, Nat.reduceAdd, Nat.reduceMul, Nat.reduceLeDiff, Nat.reduceEqDiff, Nat.reduceBNe, Nat.ble_eq, UInt8.reduceToNat])
theorem ref19_Of_fe {d_0} {s : Store} {r : ref19_File}  (h : ref19_Of d_0 = some r) : FE Go.Proofs.Tryz.prog 13 [.agg [.sl false 6 d_0.Objects.length (flat d_0.Objects), .int .i64 d_0.Root]] s [.agg [.bool true, .sl false 6 r.Objects.length (flat r.Objects), .sl false 1 r.Bytes.B.length (flat r.Bytes.B), .sl false 1 r.Bytes.Known.length (flat r.Bytes.Known), .sl false 1 r.Table.Places.length (flat r.Table.Places), .int .i64 r.Table.Root]] s := ref19_Of_fn   ⟨r, h, rfl, rfl⟩
/-- catchword/catchwordref16.Next -/
def ref16_Next (f_0 : ref16_File) (at_1 : Int) : Option (Int) :=
  jn (
    iter (fun (at2 : Int) =>
      need ((decide (at2 < (f_0.B.length : Int))) = true → 0 ≤ at2 ∧ at2 < f_0.Known.length) <|
      if (decide (at2 < (f_0.B.length : Int))) && (ix f_0.Known at2) then
        some (.inl (w64 (at2 + 1)))
      else
        some (.inr at2)) at_1) fun (at1 : Int) =>
  some at1
def ir_ref16_Next : IC :=
 (.seq (.reg none [i1 2 (.boxL 2 (.t 0)),
 i1 4 (.mov false (.c (.int .i64 0)))] [1, 2])
 (.join [(1, false)] (.block 0 (.loop [(1, false), (2, false)] (.seq (.seq (.reg none [mv 5 1,
 i1 6 (.fieldAddr 0 (.t 2)),
 i1 7 (.load 1 false (.t 6)),
 i1 8 (.len 0 (.t 7)),
 i1 9 (.bin .lss (.t 5) (.t 8)),
 mv 10 9,
 i1g 11 10 true (.fieldAddr 1 (.t 2)),
 i1g 12 10 true (.load 1 false (.t 11)),
 mvg 13 1 10 true,
 i1g 14 10 true (.indexAddr [.bool false] (.t 12) (.t 13)),
 i1g 15 10 true (.load 1 false (.t 14)),
 i1 16 (.pick (.t 10) (.t 15) (.c (.bool false)))] [1, 2, 16])
 (.cond (.t 16) .skip
 (.exit 0)))
 (.block 1 (.reg none [mv 17 1,
 i1 18 (.bin .add (.t 17) (.c (.int .i64 1))),
 mv 1 18] [1, 2])))))
 (.seq (.reg none [mv 19 1,
 mv 4 19] [4])
 .ret)))
def res_ref16_Next : List IRes := [⟨4, true, none⟩]
theorem is_ref16_Next : fnIs Go.Proofs.Tryz.prog 62 20 res_ref16_Next ir_ref16_Next = true := by kernel_rfl
theorem ref16_Next_fn {f_0 at_1} {s : Store} {Q : List AV → Store → Prop}  : ok (ref16_Next f_0 at_1) (fun r => Q [.int .i64 r] s) → FN Go.Proofs.Tryz.prog 62 [.agg [.sl false 1 f_0.B.length (flat f_0.B), .sl false 1 f_0.Known.length (flat f_0.Known)], .int .i64 at_1] s Q := by
  intro h
  refine FN.of (draw_ok mix) is_ref16_Next rfl (Nat.le_of_ble_eq_true rfl) ?_
  revert h
  rw [ir_ref16_Next, res_ref16_Next, ref16_Next]
  repeat' (first
    | with_reducible exact tt_to
    | with_reducible refine and_to ?_ ?_
    | with_reducible refine im_to ?_
    | ((with_reducible refine iter_to (fun (at2 : Int) => ⟨[(1, .int .i64 at2), (2, .loc [.sl false 1 f_0.B.length (flat f_0.B), .sl false 1 f_0.Known.length (flat f_0.Known)])], [], s⟩) ?_ ?_); (first | exact rfl | simp -implicitDefEqProofs only [go_sem, start, startE, resVs, resV, resC, allV, retK, Nat.reduceBEq, Nat.reduceAdd, Nat.reduceMul, Nat.reduceLeDiff, Nat.reduceEqDiff, Nat.reduceBNe, Nat.ble_eq, UInt8.reduceToNat]); rintro J at2)
    | ((with_reducible refine join_to (fun (at1 : Int) => ⟨[(1, .int .i64 at1)], [], s⟩) (fun J => ?_) ?_); rotate_left; rintro at1)
    | simp -implicitDefEqProofs only [go_sem, start, startE, resVs, resV, resC, allV, retK, Nat.reduceBEq, Nat.reduceAdd, Nat.reduceMul, Nat.reduceLeDiff, Nat.reduceEqDiff, Nat.reduceBNe, Nat.ble_eq, UInt8.reduceToNat])
theorem ref16_Next_fe {f_0 at_1} {s : Store} {r : Int}  (h : ref16_Next f_0 at_1 = some r) : FE Go.Proofs.Tryz.prog 62 [.agg [.sl false 1 f_0.B.length (flat f_0.B), .sl false 1 f_0.Known.length (flat f_0.Known)], .int .i64 at_1] s [.int .i64 r] s := ref16_Next_fn   ⟨r, h, rfl, rfl⟩
/-- catchword/catchwordref19.Get -/
def ref19_Get (f_0 : ref19_File) (n_1 : Int) : Option (api_Object × Int × Int) :=
  if (decide (n_1 < 1)) || (decide (n_1 > (f_0.Objects.length : Int))) then
    some ((api_Object.mk (api_Value.mk 0 0 (Str.mk []) ([] : List api_Value)) false (Str.mk [])), 0, 0)
  else
    need (0 ≤ w64 (n_1 - 1) ∧ w64 (n_1 - 1) < f_0.Objects.length) <|
    some (ix f_0.Objects (w64 (n_1 - 1)), 0, 0)
def ir_ref19_Get : IC :=
 (.seq (.reg none [i1 2 (.boxL 6 (.t 0)),
 i1 4 (.allocL [.int .i64 0, .int .i64 0, .str [], .sl true 4 0 [], .bool false, .str []]),
 i1 5 (.mov false (.c (.int .i64 0))),
 i1 6 (.mov false (.c (.int .i64 0)))] [1, 2, 4])
 (.seq (.reg none [i1 7 (.allocL [.int .i64 0, .int .i64 0, .str [], .sl true 4 0 [], .bool false, .str []])] [1, 2, 4, 7])
 (.seq (.seq (.reg none [i1 16 (.fieldAddr 0 (.t 2)),
 i1 17 (.load 1 false (.t 16))] [1, 2, 4, 7, 17])
 (.cond (.t 17) (.seq (.seq (.reg none [mv 18 1,
 i1 19 (.bin .lss (.t 18) (.c (.int .i64 1))),
 mv 20 19,
 mvg 21 1 20 false,
 i1g 22 20 false (.fieldAddr 1 (.t 2)),
 i1g 23 20 false (.load 1 false (.t 22)),
 i1g 24 20 false (.len 0 (.t 23)),
 i1g 25 20 false (.bin .gtr (.t 21) (.t 24)),
 i1 26 (.pick (.t 20) (.c (.bool true)) (.t 25))] [1, 2, 4, 7, 26])
 (.cond (.t 26) (.seq (.reg none [i1 27 (.load 6 true (.t 7)),
 i0 (.store 6 (.t 4) (.t 27)),
 i1 5 (.mov false (.c (.int .i64 0))),
 i1 6 (.mov false (.c (.int .i64 0)))] [4, 5, 6])
 .ret)
 .skip))
 (.seq (.reg none [i1 28 (.fieldAddr 1 (.t 2)),
 i1 29 (.load 1 false (.t 28)),
 mv 30 1,
 i1 31 (.bin .sub (.t 30) (.c (.int .i64 1))),
 i1 32 (.indexAddr [.int .i64 0, .int .i64 0, .str [], .sl false 4 0 [], .bool false, .str []] (.t 29) (.t 31)),
 i1 33 (.load 6 true (.t 32)),
 i0 (.store 6 (.t 4) (.t 33)),
 i1 5 (.mov false (.c (.int .i64 0))),
 i1 6 (.mov false (.c (.int .i64 0)))] [4, 5, 6])
 .ret))
 .skip))
 (.seq (.reg none [i1 35 (.fieldAddr 4 (.t 2)),
 i1 36 (.load 2 true (.t 35)),
 mv 37 1,
 i1 38 (.call 59 [(.t 36), (.t 37)]),
 mv 34 38,
 i1 39 (.extract (.t 34) 0),
 i1 40 (.extract (.t 34) 1),
 mv 8 39,
 mv 9 40] [1, 2, 4, 7, 8, 9])
 (.seq (.seq (.reg none [mv 41 9,
 i1 42 (.un .not (.t 41))] [1, 2, 4, 7, 8, 42])
 (.cond (.t 42) (.seq (.reg none [i1 43 (.load 6 true (.t 7)),
 i0 (.store 6 (.t 4) (.t 43)),
 i1 5 (.mov false (.c (.int .i64 0))),
 i1 6 (.mov false (.c (.int .i64 0)))] [4, 5, 6])
 .ret)
 .skip))
 (.seq (.seq (.reg none [mv 44 8,
 i1 45 (.fieldAddr 2 (.t 2)),
 i1 46 (.fieldAddr 0 (.t 45)),
 i1 47 (.load 1 false (.t 46)),
 i1 48 (.len 0 (.t 47)),
 i1 49 (.bin .geq (.t 44) (.t 48))] [1, 2, 4, 7, 8, 49])
 (.cond (.t 49) (.seq (.reg none [i1 50 (.load 6 true (.t 7)),
 i0 (.store 6 (.t 4) (.t 50)),
 i1 5 (.mov false (.c (.int .i64 0))),
 i1 6 (.mov false (.c (.int .i64 18)))] [4, 5, 6])
 .ret)
 .skip))
 (.seq (.reg none [i1 52 (.fieldAddr 2 (.t 2)),
 i1 53 (.load 2 true (.t 52)),
 mv 54 8,
 i1 55 (.call 60 [(.t 53), (.t 54)]),
 mv 51 55,
 i1 56 (.extract (.t 51) 0),
 i1 57 (.extract (.t 51) 1),
 mt 10 56,
 mv 11 57] [1, 2, 4, 7, 8, 10, 11])
 (.seq (.reg none [mt 59 10,
 mv 60 11,
 i1 61 (.call 61 [(.t 59), (.c (.int .i64 0)), (.t 60)]),
 mv 58 61,
 i1 62 (.extract (.t 58) 0),
 i1 63 (.extract (.t 58) 1),
 i1 64 (.extract (.t 58) 2),
 i1 65 (.extract (.t 58) 3),
 i1 13 (.allocL [.int .i64 0, .int .i64 0, .str [], .sl true 4 0 [], .bool false, .str []]),
 mv 12 62,
 i0 (.store 6 (.t 13) (.t 63)),
 mv 14 64,
 mv 15 65] [1, 2, 4, 7, 8, 12, 13, 15])
 (.seq (.seq (.reg none [mv 66 15,
 i1 67 (.bin .eql (.t 66) (.c (.int .i64 6)))] [1, 2, 4, 7, 8, 12, 13, 15, 67])
 (.cond (.t 67) (.seq (.reg (some 5) [i1 68 (.load 6 true (.t 7)),
 i1 69 (.fieldAddr 2 (.t 2)),
 i1 70 (.load 2 true (.t 69)),
 mv 71 8,
 i1 72 (.call 62 [(.t 70), (.t 71)]),
 i0 (.store 6 (.t 4) (.t 68)),
 mv 5 72,
 i1 6 (.mov false (.c (.int .i64 6)))] [4, 5, 6])
 .ret)
 .skip))
 (.seq (.seq (.reg none [mv 73 15,
 i1 74 (.bin .neq (.t 73) (.c (.int .i64 0))),
 mv 75 74,
 mvg 76 12 75 false,
 mvg 77 1 75 false,
 i1g 78 75 false (.bin .neq (.t 76) (.t 77)),
 i1 79 (.pick (.t 75) (.c (.bool true)) (.t 78))] [4, 7, 13, 79])
 (.cond (.t 79) (.seq (.reg none [i1 80 (.load 6 true (.t 7)),
 i0 (.store 6 (.t 4) (.t 80)),
 i1 5 (.mov false (.c (.int .i64 0))),
 i1 6 (.mov false (.c (.int .i64 18)))] [4, 5, 6])
 .ret)
 .skip))
 (.seq (.reg none [i1 81 (.load 6 true (.t 13)),
 i0 (.store 6 (.t 4) (.t 81)),
 i1 5 (.mov false (.c (.int .i64 0))),
 i1 6 (.mov false (.c (.int .i64 0)))] [4, 5, 6])
 .ret)))))))))))
def res_ref19_Get : List IRes := [⟨4, false, some (6, true)⟩, ⟨5, true, none⟩, ⟨6, true, none⟩]
theorem is_ref19_Get : fnIs Go.Proofs.Tryz.prog 35 82 res_ref19_Get ir_ref19_Get = true := by kernel_rfl
theorem ref19_Get_fn {f_0 n_1} {s : Store} {Q : List AV → Store → Prop}  : ok (ref19_Get f_0 n_1) (fun r => Q [.agg [.int .i64 r.1.V.Kind, .int .i64 r.1.V.N, .str r.1.V.S.b, .sl false 4 r.1.V.L.length (flat r.1.V.L), .bool r.1.Stream, .str r.1.Data.b], .int .i64 r.2.1, .int .i64 r.2.2] s) → FN Go.Proofs.Tryz.prog 35 [.agg [.bool true, .sl false 6 f_0.Objects.length (flat f_0.Objects), .sl false 1 f_0.Bytes.B.length (flat f_0.Bytes.B), .sl false 1 f_0.Bytes.Known.length (flat f_0.Bytes.Known), .sl false 1 f_0.Table.Places.length (flat f_0.Table.Places), .int .i64 f_0.Table.Root], .int .i64 n_1] s Q := by
  intro h
  refine FN.of (draw_ok mix) is_ref19_Get rfl (Nat.le_of_ble_eq_true rfl) ?_
  revert h
  rw [ir_ref19_Get, res_ref19_Get, ref19_Get]
  repeat' (first
    | with_reducible exact tt_to
    | with_reducible refine lit_t ?_
    | with_reducible refine lit_t2 ?_
    | with_reducible refine and_to ?_ ?_
    | with_reducible refine im_to ?_
    | simp -implicitDefEqProofs only [go_sem, start, startE, resVs, resV, resC, allV, retK, Nat.reduceBEq, Nat.reduceAdd, Nat.reduceMul, Nat.reduceLeDiff, Nat.reduceEqDiff, Nat.reduceBNe, Nat.ble_eq, UInt8.reduceToNat])
theorem ref19_Get_fe {f_0 n_1} {s : Store} {r : api_Object × Int × Int}  (h : ref19_Get f_0 n_1 = some r) : FE Go.Proofs.Tryz.prog 35 [.agg [.bool true, .sl false 6 f_0.Objects.length (flat f_0.Objects), .sl false 1 f_0.Bytes.B.length (flat f_0.Bytes.B), .sl false 1 f_0.Bytes.Known.length (flat f_0.Bytes.Known), .sl false 1 f_0.Table.Places.length (flat f_0.Table.Places), .int .i64 f_0.Table.Root], .int .i64 n_1] s [.agg [.int .i64 r.1.V.Kind, .int .i64 r.1.V.N, .str r.1.V.S.b, .sl false 4 r.1.V.L.length (flat r.1.V.L), .bool r.1.Stream, .str r.1.Data.b], .int .i64 r.2.1, .int .i64 r.2.2] s := ref19_Get_fn   ⟨r, h, rfl, rfl⟩
/-- catchword/catchwordref11.Find -/
def ref11_Find (v_0 : api_Value) (key_1 : Str) : Option (Int) :=
  jnS (
    bndS (
      iter (fun (k2 : Int) =>
        if (v_0.Kind == 7) && (decide (k2 < (v_0.L.length : Int))) then
          need (0 ≤ k2 ∧ k2 < v_0.L.length) <|
          need ((((ix v_0.L k2).Kind) == 5) = true → 0 ≤ k2 ∧ k2 < v_0.L.length) <|
          if (((ix v_0.L k2).Kind) == 5) && (((ix v_0.L k2).S).b == key_1.b) then
            some (.inr (.inr k2))
          else
            some (.inl (w64 (k2 + 2)))
        else
          some (.inr (.inl ()))) 0) (fun (_ : Unit) =>
      some (.inl ()))
    (fun (t3 : Int) => some (.inr t3))) (fun (_ : Unit) =>
    some (-1))
  (fun (t1 : Int) => some t1)
def ir_ref11_Find : IC :=
 (.seq (.reg none [i1 2 (.boxL 4 (.t 0)),
 i1 4 (.mov false (.c (.int .i64 0)))] [1, 2])
 (.join [] (.seq (.reg none [i1 5 (.mov false (.c (.int .i64 0)))] [1, 2, 5])
 (.block 0 (.loop [(1, false), (2, false), (5, false)] (.seq (.seq (.reg none [i1 6 (.fieldAddr 0 (.t 2)),
 i1 7 (.load 1 false (.t 6)),
 i1 8 (.bin .eql (.t 7) (.c (.int .i64 7))),
 mv 9 8,
 mvg 10 5 9 true,
 i1g 11 9 true (.fieldAddr 3 (.t 2)),
 i1g 12 9 true (.load 1 false (.t 11)),
 i1g 13 9 true (.len 0 (.t 12)),
 i1g 14 9 true (.bin .lss (.t 10) (.t 13)),
 i1 15 (.pick (.t 9) (.t 14) (.c (.bool false)))] [1, 2, 5, 15])
 (.cond (.t 15) .skip
 (.exit 0)))
 (.seq (.block 1 (.seq (.reg none [i1 18 (.fieldAddr 3 (.t 2)),
 i1 19 (.load 1 false (.t 18)),
 mv 20 5,
 i1 21 (.indexAddr [.int .i64 0, .int .i64 0, .str [], .sl false 4 0 []] (.t 19) (.t 20)),
 i1 22 (.fieldAddr 0 (.t 21)),
 i1 23 (.load 1 false (.t 22)),
 i1 24 (.bin .eql (.t 23) (.c (.int .i64 5))),
 mv 25 24,
 i1g 26 25 true (.fieldAddr 3 (.t 2)),
 i1g 27 25 true (.load 1 false (.t 26)),
 mvg 28 5 25 true,
 i1g 29 25 true (.indexAddr [.int .i64 0, .int .i64 0, .str [], .sl false 4 0 []] (.t 27) (.t 28)),
 i1g 30 25 true (.fieldAddr 2 (.t 29)),
 i1g 31 25 true (.load 1 false (.t 30)),
 mvg 32 1 25 true,
 i1g 33 25 true (.bin .eql (.t 31) (.t 32)),
 i1 34 (.pick (.t 25) (.t 33) (.c (.bool false)))] [1, 2, 5, 34])
 (.cond (.t 34) (.seq (.reg none [mv 35 5,
 mv 4 35] [4])
 .ret)
 .skip)))
 (.reg none [mv 16 5,
 i1 17 (.bin .add (.t 16) (.c (.int .i64 2))),
 mv 5 17] [1, 2, 5]))))))
 (.seq (.reg none [i1 4 (.mov false (.c (.int .i64 (-1))))] [4])
 .ret)))
def res_ref11_Find : List IRes := [⟨4, true, none⟩]
theorem is_ref11_Find : fnIs Go.Proofs.Tryz.prog 88 36 res_ref11_Find ir_ref11_Find = true := by kernel_rfl
theorem ref11_Find_fn {v_0 key_1} {s : Store} {Q : List AV → Store → Prop}  : ok (ref11_Find v_0 key_1) (fun r => Q [.int .i64 r] s) → FN Go.Proofs.Tryz.prog 88 [.agg [.int .i64 v_0.Kind, .int .i64 v_0.N, .str v_0.S.b, .sl false 4 v_0.L.length (flat v_0.L)], .str key_1.b] s Q := by
  intro h
  refine FN.of (draw_ok mix) is_ref11_Find rfl (Nat.le_of_ble_eq_true rfl) ?_
  revert h
  rw [ir_ref11_Find, res_ref11_Find, ref11_Find]
  repeat' (first
    | with_reducible exact tt_to
    | with_reducible refine and_to ?_ ?_
    | with_reducible refine im_to ?_
    | ((with_reducible refine iter_to (fun (k2 : Int) => ⟨[(1, .str key_1.b), (2, .loc [.int .i64 v_0.Kind, .int .i64 v_0.N, .str v_0.S.b, .sl false 4 v_0.L.length (flat v_0.L)]), (5, .int .i64 k2)], [], s⟩) ?_ ?_); (first | exact rfl | simp -implicitDefEqProofs only [go_sem, start, startE, resVs, resV, resC, allV, retK, Nat.reduceBEq, Nat.reduceAdd, Nat.reduceMul, Nat.reduceLeDiff, Nat.reduceEqDiff, Nat.reduceBNe, Nat.ble_eq, UInt8.reduceToNat]); rintro J k2)
    | ((with_reducible refine join_toS (fun (_ : Unit) => ⟨[], [], s⟩) (fun J => ?_) ?_); rotate_left; rintro _)
    | simp -implicitDefEqProofs only [go_sem, start, startE, resVs, resV, resC, allV, retK, Nat.reduceBEq, Nat.reduceAdd, Nat.reduceMul, Nat.reduceLeDiff, Nat.reduceEqDiff, Nat.reduceBNe, Nat.ble_eq, UInt8.reduceToNat])
theorem ref11_Find_fe {v_0 key_1} {s : Store} {r : Int}  (h : ref11_Find v_0 key_1 = some r) : FE Go.Proofs.Tryz.prog 88 [.agg [.int .i64 v_0.Kind, .int .i64 v_0.N, .str v_0.S.b, .sl false 4 v_0.L.length (flat v_0.L)], .str key_1.b] s [.int .i64 r] s := ref11_Find_fn   ⟨r, h, rfl, rfl⟩
/-- catchword/catchwordref11.Drop -/
def ref11_Drop (v_0 : api_Value) (key_1 : Str) : Option (api_Value) :=
  bnd (ref11_Find v_0 key_1) fun r1 =>
  if decide (r1 < 0) then
    some v_0
  else
    need (0 ≤ (0 : Int) ∧ 0 ≤ r1 ∧ r1 ≤ v_0.L.length) <|
    need ((([] : List api_Value).length + (part v_0.L 0 r1).length) * 56 ≤ room) <|
    jn (
      if decide (w64 (r1 + 2) < (v_0.L.length : Int)) then
        need (0 ≤ w64 (r1 + 2) ∧ w64 (r1 + 2) ≤ (v_0.L.length : Int) ∧ (v_0.L.length : Int) ≤ v_0.L.length) <|
        need (((part v_0.L 0 r1).length + (part v_0.L (w64 (r1 + 2)) (v_0.L.length : Int)).length) * 56 ≤ room) <|
        some ((part v_0.L 0 r1) ++ (part v_0.L (w64 (r1 + 2)) (v_0.L.length : Int)))
      else
        some (part v_0.L 0 r1)) fun (out4 : (List api_Value)) =>
    some (api_Value.mk v_0.Kind v_0.N v_0.S out4)
def ir_ref11_Drop : IC :=
 (.seq (.reg none [i1 2 (.boxL 4 (.t 0)),
 i1 4 (.allocL [.int .i64 0, .int .i64 0, .str [], .sl true 4 0 []])] [1, 2, 4])
 (.seq (.reg none [i1 7 (.load 4 true (.t 2)),
 mv 8 1,
 i1 9 (.call 88 [(.t 7), (.t 8)]),
 mv 5 9] [2, 4, 5])
 (.seq (.seq (.reg none [mv 10 5,
 i1 11 (.bin .lss (.t 10) (.c (.int .i64 0)))] [2, 4, 5, 11])
 (.cond (.t 11) (.seq (.reg none [i1 12 (.load 4 true (.t 2)),
 i0 (.store 4 (.t 4) (.t 12))] [4])
 .ret)
 .skip))
 (.seq (.reg none [i1 13 (.buildSl 4 0 [] []),
 i1 14 (.fieldAddr 3 (.t 2)),
 i1 15 (.load 1 false (.t 14)),
 mv 16 5,
 i1 17 (.slice 4 (.t 15) none (some (.t 16)) none),
 i1 18 (.append 4 56 (.t 13) (.t 17)),
 mt 6 18] [2, 4, 5, 6])
 (.join [(2, false), (4, false), (6, false)] (.seq (.reg none [mv 19 5,
 i1 20 (.bin .add (.t 19) (.c (.int .i64 2))),
 i1 21 (.fieldAddr 3 (.t 2)),
 i1 22 (.load 1 false (.t 21)),
 i1 23 (.len 0 (.t 22)),
 i1 24 (.bin .lss (.t 20) (.t 23))] [2, 4, 5, 6, 24])
 (.cond (.t 24) (.reg none [mt 25 6,
 i1 26 (.fieldAddr 3 (.t 2)),
 i1 27 (.load 1 false (.t 26)),
 mv 28 5,
 i1 29 (.bin .add (.t 28) (.c (.int .i64 2))),
 i1 30 (.slice 4 (.t 27) (some (.t 29)) none none),
 i1 31 (.append 4 56 (.t 25) (.t 30)),
 mt 6 31] [2, 4, 6])
 .skip))
 (.seq (.reg none [mt 32 6,
 i1 33 (.fieldAddr 3 (.t 2)),
 i0 (.store 1 (.t 33) (.t 32))] [2, 4])
 (.seq (.reg none [i1 34 (.load 4 true (.t 2)),
 i0 (.store 4 (.t 4) (.t 34))] [4])
 .ret)))))))
def res_ref11_Drop : List IRes := [⟨4, false, some (4, true)⟩]
theorem is_ref11_Drop : fnIs Go.Proofs.Tryz.prog 64 35 res_ref11_Drop ir_ref11_Drop = true := by kernel_rfl
theorem ref11_Drop_fn {v_0 key_1} {s : Store} {Q : List AV → Store → Prop}  : ok (ref11_Drop v_0 key_1) (fun r => Q [.agg [.int .i64 r.Kind, .int .i64 r.N, .str r.S.b, .sl false 4 r.L.length (flat r.L)]] s) → FN Go.Proofs.Tryz.prog 64 [.agg [.int .i64 v_0.Kind, .int .i64 v_0.N, .str v_0.S.b, .sl false 4 v_0.L.length (flat v_0.L)], .str key_1.b] s Q := by
  intro h
  refine FN.of (draw_ok mix) is_ref11_Drop rfl (Nat.le_of_ble_eq_true rfl) ?_
  revert h
  rw [ir_ref11_Drop, res_ref11_Drop, ref11_Drop]
  repeat' (first
    | with_reducible exact tt_to
    | with_reducible refine and_to ?_ ?_
    | with_reducible refine im_to ?_
    | with_reducible refine call_to (fun _ (h : ref11_Find v_0 key_1 = some _) => ref11_Find_fe h) (fun r1 => ?_)
    | with_reducible refine call_to_q (fun _ (h : ref11_Find v_0 key_1 = some _) => ref11_Find_fe h) (fun _ => rfl) (fun r1 => ?_)
    | with_reducible refine call_to (fun _ (h : ref11_Find v_0 key_1 = some _) => (by refine FE_cast ?_ (ref11_Find_fe h); simp -implicitDefEqProofs only [go_sem, start, startE, resVs, resV, resC, allV, retK, Nat.reduceBEq, Nat.reduceAdd, Nat.reduceMul, Nat.reduceLeDiff, Nat.reduceEqDiff, Nat.reduceBNe, Nat.ble_eq, UInt8.reduceToNat])) (fun r1 => ?_)
    | with_reducible refine call_to_q (fun _ (h : ref11_Find v_0 key_1 = some _) => (by refine FE_cast ?_ (ref11_Find_fe h); simp -implicitDefEqProofs only [go_sem, start, startE, resVs, resV, resC, allV, retK, Nat.reduceBEq, Nat.reduceAdd, Nat.reduceMul, Nat.reduceLeDiff, Nat.reduceEqDiff, Nat.reduceBNe, Nat.ble_eq, UInt8.reduceToNat])) (fun _ => rfl) (fun r1 => ?_)
    | ((with_reducible refine join_to (fun (out4 : (List api_Value)) => ⟨[(2, .loc [.int .i64 v_0.Kind, .int .i64 v_0.N, .str v_0.S.b, .sl false 4 v_0.L.length (flat v_0.L)]), (4, .loc [.int .i64 0, .int .i64 0, .str (Str.mk []).b, .sl true 4 ([] : List api_Value).length (flat ([] : List api_Value))]), (6, .sl true 4 out4.length (flat out4))], [], s⟩) (fun J => ?_) ?_); rotate_left; rintro out4)
    | simp -implicitDefEqProofs only [go_sem, start, startE, resVs, resV, resC, allV, retK, Nat.reduceBEq, Nat.reduceAdd, Nat.reduceMul, Nat.reduceLeDiff, Nat.reduceEqDiff, Nat.reduceBNe, Nat.ble_eq, UInt8.reduceToNat])
theorem ref11_Drop_fe {v_0 key_1} {s : Store} {r : api_Value}  (h : ref11_Drop v_0 key_1 = some r) : FE Go.Proofs.Tryz.prog 64 [.agg [.int .i64 v_0.Kind, .int .i64 v_0.N, .str v_0.S.b, .sl false 4 v_0.L.length (flat v_0.L)], .str key_1.b] s [.agg [.int .i64 r.Kind, .int .i64 r.N, .str r.S.b, .sl false 4 r.L.length (flat r.L)]] s := ref11_Drop_fn   ⟨r, h, rfl, rfl⟩
/-- catchword/catchwordref11.has -/
def ref11_has (l_0 : (List Int)) (n_1 : Int) : Option (Bool) :=
  jnS (
    bndS (
      iter (fun (k2 : Int) =>
        if decide (k2 < (l_0.length : Int)) then
          need (0 ≤ k2 ∧ k2 < l_0.length) <|
          if (ix l_0 k2) == n_1 then
            some (.inr (.inr true))
          else
            some (.inl (w64 (k2 + 1)))
        else
          some (.inr (.inl ()))) 0) (fun (_ : Unit) =>
      some (.inl ()))
    (fun (t3 : Bool) => some (.inr t3))) (fun (_ : Unit) =>
    some false)
  (fun (t1 : Bool) => some t1)
def ir_ref11_has : IC :=
 (.seq (.reg none [i1 4 (.mov false (.c (.bool false)))] [0, 1])
 (.join [] (.seq (.reg none [i1 5 (.mov false (.c (.int .i64 0)))] [0, 1, 5])
 (.block 0 (.loop [(0, true), (1, false), (5, false)] (.seq (.seq (.reg none [mv 6 5,
 mv 7 0,
 i1 8 (.len 0 (.t 7)),
 i1 9 (.bin .lss (.t 6) (.t 8))] [0, 1, 5, 9])
 (.cond (.t 9) .skip
 (.exit 0)))
 (.seq (.block 1 (.seq (.reg none [mv 12 0,
 mv 13 5,
 i1 14 (.indexAddr [.int .i64 0] (.t 12) (.t 13)),
 i1 15 (.load 1 false (.t 14)),
 mv 16 1,
 i1 17 (.bin .eql (.t 15) (.t 16))] [0, 1, 5, 17])
 (.cond (.t 17) (.seq (.reg none [i1 4 (.mov false (.c (.bool true)))] [4])
 .ret)
 .skip)))
 (.reg none [mv 10 5,
 i1 11 (.bin .add (.t 10) (.c (.int .i64 1))),
 mv 5 11] [0, 1, 5]))))))
 (.seq (.reg none [i1 4 (.mov false (.c (.bool false)))] [4])
 .ret)))
def res_ref11_has : List IRes := [⟨4, true, none⟩]
theorem is_ref11_has : fnIs Go.Proofs.Tryz.prog 106 18 res_ref11_has ir_ref11_has = true := by kernel_rfl
theorem ref11_has_fn {l_0 n_1} {s : Store} {Q : List AV → Store → Prop}  : ok (ref11_has l_0 n_1) (fun r => Q [.bool r] s) → FN Go.Proofs.Tryz.prog 106 [.sl false 1 l_0.length (flat l_0), .int .i64 n_1] s Q := by
  intro h
  refine FN.of (draw_ok mix) is_ref11_has rfl (Nat.le_of_ble_eq_true rfl) ?_
  revert h
  rw [ir_ref11_has, res_ref11_has, ref11_has]
  repeat' (first
    | with_reducible exact tt_to
    | with_reducible refine and_to ?_ ?_
    | with_reducible refine im_to ?_
    | ((with_reducible refine iter_to (fun (k2 : Int) => ⟨[(0, .sl false 1 l_0.length (flat l_0)), (1, .int .i64 n_1), (5, .int .i64 k2)], [], s⟩) ?_ ?_); (first | exact rfl | simp -implicitDefEqProofs only [go_sem, start, startE, resVs, resV, resC, allV, retK, Nat.reduceBEq, Nat.reduceAdd, Nat.reduceMul, Nat.reduceLeDiff, Nat.reduceEqDiff, Nat.reduceBNe, Nat.ble_eq, UInt8.reduceToNat]); rintro J k2)
    | ((with_reducible refine join_toS (fun (_ : Unit) => ⟨[], [], s⟩) (fun J => ?_) ?_); rotate_left; rintro _)
    | simp -implicitDefEqProofs only [go_sem, start, startE, resVs, resV, resC, allV, retK, Nat.reduceBEq, Nat.reduceAdd, Nat.reduceMul, Nat.reduceLeDiff, Nat.reduceEqDiff, Nat.reduceBNe, Nat.ble_eq, UInt8.reduceToNat])
theorem ref11_has_fe {l_0 n_1} {s : Store} {r : Bool}  (h : ref11_has l_0 n_1 = some r) : FE Go.Proofs.Tryz.prog 106 [.sl false 1 l_0.length (flat l_0), .int .i64 n_1] s [.bool r] s := ref11_has_fn   ⟨r, h, rfl, rfl⟩
/-- catchword/catchwordref11.holds -/
def ref11_holds (v_0 : api_Value) : Option (Bool) :=
  some ((v_0.Kind == 6) || (v_0.Kind == 7))
def ir_ref11_holds : IC :=
 (.seq (.reg none [i1 1 (.boxL 4 (.t 0)),
 i1 2 (.mov false (.c (.bool false)))] [1])
 (.seq (.reg none [i1 3 (.fieldAddr 0 (.t 1)),
 i1 4 (.load 1 false (.t 3)),
 i1 5 (.bin .eql (.t 4) (.c (.int .i64 6))),
 mv 6 5,
 i1g 7 6 false (.fieldAddr 0 (.t 1)),
 i1g 8 6 false (.load 1 false (.t 7)),
 i1g 9 6 false (.bin .eql (.t 8) (.c (.int .i64 7))),
 i1 10 (.pick (.t 6) (.c (.bool true)) (.t 9)),
 mv 2 10] [2])
 .ret))
def res_ref11_holds : List IRes := [⟨2, true, none⟩]
theorem is_ref11_holds : fnIs Go.Proofs.Tryz.prog 107 11 res_ref11_holds ir_ref11_holds = true := by kernel_rfl
theorem ref11_holds_fn {v_0} {s : Store} {Q : List AV → Store → Prop}  : ok (ref11_holds v_0) (fun r => Q [.bool r] s) → FN Go.Proofs.Tryz.prog 107 [.agg [.int .i64 v_0.Kind, .int .i64 v_0.N, .str v_0.S.b, .sl false 4 v_0.L.length (flat v_0.L)]] s Q := by
  intro h
  refine FN.of (draw_ok mix) is_ref11_holds rfl (Nat.le_of_ble_eq_true rfl) ?_
  revert h
  rw [ir_ref11_holds, res_ref11_holds, ref11_holds]
  repeat' (first
    | with_reducible exact tt_to
    | with_reducible refine and_to ?_ ?_
    | with_reducible refine im_to ?_
    | simp -implicitDefEqProofs only [go_sem, start, startE, resVs, resV, resC, allV, retK, Nat.reduceBEq, Nat.reduceAdd, Nat.reduceMul, Nat.reduceLeDiff, Nat.reduceEqDiff, Nat.reduceBNe, Nat.ble_eq, UInt8.reduceToNat])
theorem ref11_holds_fe {v_0} {s : Store} {r : Bool}  (h : ref11_holds v_0 = some r) : FE Go.Proofs.Tryz.prog 107 [.agg [.int .i64 v_0.Kind, .int .i64 v_0.N, .str v_0.S.b, .sl false 4 v_0.L.length (flat v_0.L)]] s [.bool r] s := ref11_holds_fn   ⟨r, h, rfl, rfl⟩
/-- catchword/catchwordref11.more -/
def ref11_more : Nat → (List Int) → api_Value → Option ((List Int))
  | 0, _, _ => none
  | fuel + 1, l_0, v_1 =>
    bnd (whenB (v_1.Kind == 8) false (ref11_has l_0 v_1.N)) fun r1 =>
    if (v_1.Kind == 8) && !r1 then
      need ((([] : List Int).length + l_0.length) * 8 ≤ room) <|
      need ((l_0.length + [v_1.N].length) * 8 ≤ room) <|
      some (l_0 ++ [v_1.N])
    else
      jn (
        iter (fun ((l3, k4) : (List Int) × Int) =>
          bnd (ref11_holds v_1) fun r6 =>
          if r6 && (decide (k4 < (v_1.L.length : Int))) then
            need (0 ≤ k4 ∧ k4 < v_1.L.length) <|
            bnd (ref11_more fuel l3 (ix v_1.L k4)) fun r7 =>
            some (.inl (r7, w64 (k4 + 1)))
          else
            some (.inr l3)) (l_0, 0)) fun (l2 : (List Int)) =>
      some l2
def ir_ref11_more : IC :=
 (.seq (.reg none [i1 3 (.boxL 4 (.t 1)),
 i1 4 (.mov true (.c (.sl true 1 0 [])))] [0, 3])
 (.seq (.seq (.reg (some 8) [i1 6 (.fieldAddr 0 (.t 3)),
 i1 7 (.load 1 false (.t 6)),
 i1 8 (.bin .eql (.t 7) (.c (.int .i64 8))),
 mv 9 8,
 mvg 10 0 9 true,
 i1g 11 9 true (.fieldAddr 1 (.t 3)),
 i1g 12 9 true (.load 1 false (.t 11)),
 i1g 13 9 true (.call 106 [(.t 10), (.t 12)]),
 i1g 14 9 true (.un .not (.t 13)),
 i1 15 (.pick (.t 9) (.t 14) (.c (.bool false)))] [0, 3, 15])
 (.cond (.t 15) (.seq (.regT [] 8 [i1 16 (.buildSl 1 0 [] []),
 mt 17 0,
 i1 18 (.append 1 8 (.t 16) (.t 17)),
 i1 19 (.fieldAddr 1 (.t 3)),
 i1 20 (.load 1 false (.t 19)),
 i1 21 (.buildSl 1 1 [.int .i64 0] [(0, 1, (.t 20))]),
 i1 22 (.append 1 8 (.t 18) (.t 21)),
 mt 4 22] [4])
 .ret)
 .skip))
 (.join [(0, true)] (.seq (.reg none [i1 5 (.mov false (.c (.int .i64 0)))] [0, 3, 5])
 (.block 0 (.loop [(0, true), (3, false), (5, false)] (.seq (.seq (.reg none [i1 23 (.load 4 true (.t 3)),
 i1 24 (.call 107 [(.t 23)]),
 mv 25 24,
 mvg 26 5 25 true,
 i1g 27 25 true (.fieldAddr 3 (.t 3)),
 i1g 28 25 true (.load 1 false (.t 27)),
 i1g 29 25 true (.len 0 (.t 28)),
 i1g 30 25 true (.bin .lss (.t 26) (.t 29)),
 i1 31 (.pick (.t 25) (.t 30) (.c (.bool false)))] [0, 3, 5, 31])
 (.cond (.t 31) .skip
 (.exit 0)))
 (.seq (.block 1 (.reg none [mt 34 0,
 i1 35 (.fieldAddr 3 (.t 3)),
 i1 36 (.load 1 false (.t 35)),
 mv 37 5,
 i1 38 (.indexAddr [.int .i64 0, .int .i64 0, .str [], .sl false 4 0 []] (.t 36) (.t 37)),
 i1 39 (.load 4 true (.t 38)),
 i1 40 (.call 89 [(.t 34), (.t 39)]),
 mt 0 40] [0, 3, 5]))
 (.reg none [mv 32 5,
 i1 33 (.bin .add (.t 32) (.c (.int .i64 1))),
 mv 5 33] [0, 3, 5]))))))
 (.seq (.reg none [mt 41 0,
 mt 4 41] [4])
 .ret))))
def res_ref11_more : List IRes := [⟨4, false, none⟩]
theorem is_ref11_more : fnIs Go.Proofs.Tryz.prog 89 42 res_ref11_more ir_ref11_more = true := by kernel_rfl
theorem ref11_more_fn {fuel : Nat} : ∀ {l_0 : (List Int)} {v_1 : api_Value} {s : Store} {Q : List AV → Store → Prop} , ok (ref11_more fuel l_0 v_1) (fun r => Q [.sl false 1 r.length (flat r)] s) → FN Go.Proofs.Tryz.prog 89 [.sl false 1 l_0.length (flat l_0), .agg [.int .i64 v_1.Kind, .int .i64 v_1.N, .str v_1.S.b, .sl false 4 v_1.L.length (flat v_1.L)]] s Q := by
  induction fuel with
  | zero => intros; rename_i h; rw [ref11_more] at h; exact absurd h (by rw [ok_none]; exact fun h => h)
  | succ fuel ih =>
  have ihfe : ∀ {l_0 : (List Int)} {v_1 : api_Value} {s : Store} {r : (List Int)} , ref11_more fuel l_0 v_1 = some r → FE Go.Proofs.Tryz.prog 89 [.sl false 1 l_0.length (flat l_0), .agg [.int .i64 v_1.Kind, .int .i64 v_1.N, .str v_1.S.b, .sl false 4 v_1.L.length (flat v_1.L)]] s [.sl false 1 r.length (flat r)] s := fun  h => ih  ⟨_, h, rfl, rfl⟩
  intro l_0 v_1  s Q 
  intro h
  refine FN.of (draw_ok mix) is_ref11_more rfl (Nat.le_of_ble_eq_true rfl) ?_
  revert h
  rw [ir_ref11_more, res_ref11_more, ref11_more]
  repeat' (first
    | with_reducible exact tt_to
    | ((with_reducible refine b_to ?_ ?_); exact rfl)
    | ((with_reducible refine n_to ?_ ?_); exact rfl)
    | with_reducible refine and_to ?_ ?_
    | with_reducible refine im_to ?_
    | with_reducible refine call_to_g rfl (fun _ (h : ref11_has l_0 v_1.N = some _) => ref11_has_fe h) (fun _ => rfl) (fun r1 => ?_)
    | with_reducible refine call_to_g rfl (fun _ (h : ref11_has l_0 v_1.N = some _) => (by refine FE_cast ?_ (ref11_has_fe h); simp -implicitDefEqProofs only [go_sem, start, startE, resVs, resV, resC, allV, retK, Nat.reduceBEq, Nat.reduceAdd, Nat.reduceMul, Nat.reduceLeDiff, Nat.reduceEqDiff, Nat.reduceBNe, Nat.ble_eq, UInt8.reduceToNat])) (fun _ => rfl) (fun r1 => ?_)
    | with_reducible refine call_to (fun _ (h : ref11_holds v_1 = some _) => ref11_holds_fe h) (fun r6 => ?_)
    | with_reducible refine call_to_q (fun _ (h : ref11_holds v_1 = some _) => ref11_holds_fe h) (fun _ => rfl) (fun r6 => ?_)
    | with_reducible refine call_to (fun _ (h : ref11_holds v_1 = some _) => (by refine FE_cast ?_ (ref11_holds_fe h); simp -implicitDefEqProofs only [go_sem, start, startE, resVs, resV, resC, allV, retK, Nat.reduceBEq, Nat.reduceAdd, Nat.reduceMul, Nat.reduceLeDiff, Nat.reduceEqDiff, Nat.reduceBNe, Nat.ble_eq, UInt8.reduceToNat])) (fun r6 => ?_)
    | with_reducible refine call_to_q (fun _ (h : ref11_holds v_1 = some _) => (by refine FE_cast ?_ (ref11_holds_fe h); simp -implicitDefEqProofs only [go_sem, start, startE, resVs, resV, resC, allV, retK, Nat.reduceBEq, Nat.reduceAdd, Nat.reduceMul, Nat.reduceLeDiff, Nat.reduceEqDiff, Nat.reduceBNe, Nat.ble_eq, UInt8.reduceToNat])) (fun _ => rfl) (fun r6 => ?_)
    | with_reducible refine call_to (fun _ (h : ref11_more fuel l3 (ix v_1.L k4) = some _) => ihfe h) (fun r7 => ?_)
    | with_reducible refine call_to_q (fun _ (h : ref11_more fuel l3 (ix v_1.L k4) = some _) => ihfe h) (fun _ => rfl) (fun r7 => ?_)
    | with_reducible refine call_to (fun _ (h : ref11_more fuel l3 (ix v_1.L k4) = some _) => (by refine FE_cast ?_ (ihfe h); simp -implicitDefEqProofs only [go_sem, start, startE, resVs, resV, resC, allV, retK, Nat.reduceBEq, Nat.reduceAdd, Nat.reduceMul, Nat.reduceLeDiff, Nat.reduceEqDiff, Nat.reduceBNe, Nat.ble_eq, UInt8.reduceToNat])) (fun r7 => ?_)
    | with_reducible refine call_to_q (fun _ (h : ref11_more fuel l3 (ix v_1.L k4) = some _) => (by refine FE_cast ?_ (ihfe h); simp -implicitDefEqProofs only [go_sem, start, startE, resVs, resV, resC, allV, retK, Nat.reduceBEq, Nat.reduceAdd, Nat.reduceMul, Nat.reduceLeDiff, Nat.reduceEqDiff, Nat.reduceBNe, Nat.ble_eq, UInt8.reduceToNat])) (fun _ => rfl) (fun r7 => ?_)
    | with_reducible refine call_to (fun _ (h : ref11_more fuel l3 (ix v_1.L k4) = some _) => (by have hx := ihfe (s := s) h; simp -implicitDefEqProofs only [go_sem, start, startE, resVs, resV, resC, allV, retK, Nat.reduceBEq, Nat.reduceAdd, Nat.reduceMul, Nat.reduceLeDiff, Nat.reduceEqDiff, Nat.reduceBNe, Nat.ble_eq, UInt8.reduceToNat] at hx; exact hx)) (fun r7 => ?_)
    | ((with_reducible refine iter_to (fun ((l3, k4) : (List Int) × Int) => ⟨[(0, .sl false 1 l3.length (flat l3)), (3, .loc [.int .i64 v_1.Kind, .int .i64 v_1.N, .str v_1.S.b, .sl false 4 v_1.L.length (flat v_1.L)]), (5, .int .i64 k4)], [], s⟩) ?_ ?_); (first | exact rfl | simp -implicitDefEqProofs only [go_sem, start, startE, resVs, resV, resC, allV, retK, Nat.reduceBEq, Nat.reduceAdd, Nat.reduceMul, Nat.reduceLeDiff, Nat.reduceEqDiff, Nat.reduceBNe, Nat.ble_eq, UInt8.reduceToNat]); rintro J ⟨l3, k4⟩)
    | ((with_reducible refine join_to (fun (l2 : (List Int)) => ⟨[(0, .sl false 1 l2.length (flat l2))], [], s⟩) (fun J => ?_) ?_); rotate_left; rintro l2)
    | simp -implicitDefEqProofs only [go_sem, start, startE, resVs, resV, resC, allV, retK, Nat.reduceBEq, Nat.reduceAdd, Nat.reduceMul, Nat.reduceLeDiff, Nat.reduceEqDiff, Nat.reduceBNe, Nat.ble_eq, UInt8.reduceToNat])
theorem ref11_more_fe {fuel : Nat} {l_0 v_1} {s : Store} {r : (List Int)}  (h : ref11_more fuel l_0 v_1 = some r) : FE Go.Proofs.Tryz.prog 89 [.sl false 1 l_0.length (flat l_0), .agg [.int .i64 v_1.Kind, .int .i64 v_1.N, .str v_1.S.b, .sl false 4 v_1.L.length (flat v_1.L)]] s [.sl false 1 r.length (flat r)] s := ref11_more_fn  ⟨r, h, rfl, rfl⟩
/-- catchword/catchwordref11.Refs -/
def ref11_Refs (v_0 : api_Value) : Option ((List Int)) :=
  bnd (ref11_more bigN ([] : List Int) v_0) fun r1 =>
  some r1
def ir_ref11_Refs : IC :=
 (.seq (.reg none [i1 1 (.boxL 4 (.t 0)),
 i1 2 (.mov true (.c (.sl true 1 0 [])))] [1])
 (.seq (.reg none [i1 3 (.load 4 true (.t 1)),
 i1 4 (.call 89 [(.c (.sl true 1 0 [])), (.t 3)]),
 mt 2 4] [2])
 .ret))
def res_ref11_Refs : List IRes := [⟨2, false, none⟩]
theorem is_ref11_Refs : fnIs Go.Proofs.Tryz.prog 65 5 res_ref11_Refs ir_ref11_Refs = true := by kernel_rfl
theorem ref11_Refs_fn {v_0} {s : Store} {Q : List AV → Store → Prop}  : ok (ref11_Refs v_0) (fun r => Q [.sl false 1 r.length (flat r)] s) → FN Go.Proofs.Tryz.prog 65 [.agg [.int .i64 v_0.Kind, .int .i64 v_0.N, .str v_0.S.b, .sl false 4 v_0.L.length (flat v_0.L)]] s Q := by
  intro h
  refine FN.of (draw_ok mix) is_ref11_Refs rfl (Nat.le_of_ble_eq_true rfl) ?_
  revert h
  rw [ir_ref11_Refs, res_ref11_Refs, ref11_Refs]
  repeat' (first
    | with_reducible exact tt_to
    | with_reducible refine and_to ?_ ?_
    | with_reducible refine im_to ?_
    | with_reducible refine call_to (fun _ (h : ref11_more bigN ([] : List Int) v_0 = some _) => ref11_more_fe h) (fun r1 => ?_)
    | with_reducible refine call_to_q (fun _ (h : ref11_more bigN ([] : List Int) v_0 = some _) => ref11_more_fe h) (fun _ => rfl) (fun r1 => ?_)
    | with_reducible refine call_to (fun _ (h : ref11_more bigN ([] : List Int) v_0 = some _) => (by refine FE_cast ?_ (ref11_more_fe h); simp -implicitDefEqProofs only [go_sem, start, startE, resVs, resV, resC, allV, retK, Nat.reduceBEq, Nat.reduceAdd, Nat.reduceMul, Nat.reduceLeDiff, Nat.reduceEqDiff, Nat.reduceBNe, Nat.ble_eq, UInt8.reduceToNat])) (fun r1 => ?_)
    | with_reducible refine call_to_q (fun _ (h : ref11_more bigN ([] : List Int) v_0 = some _) => (by refine FE_cast ?_ (ref11_more_fe h); simp -implicitDefEqProofs only [go_sem, start, startE, resVs, resV, resC, allV, retK, Nat.reduceBEq, Nat.reduceAdd, Nat.reduceMul, Nat.reduceLeDiff, Nat.reduceEqDiff, Nat.reduceBNe, Nat.ble_eq, UInt8.reduceToNat])) (fun _ => rfl) (fun r1 => ?_)
    | simp -implicitDefEqProofs only [go_sem, start, startE, resVs, resV, resC, allV, retK, Nat.reduceBEq, Nat.reduceAdd, Nat.reduceMul, Nat.reduceLeDiff, Nat.reduceEqDiff, Nat.reduceBNe, Nat.ble_eq, UInt8.reduceToNat])
theorem ref11_Refs_fe {v_0} {s : Store} {r : (List Int)}  (h : ref11_Refs v_0 = some r) : FE Go.Proofs.Tryz.prog 65 [.agg [.int .i64 v_0.Kind, .int .i64 v_0.N, .str v_0.S.b, .sl false 4 v_0.L.length (flat v_0.L)]] s [.sl false 1 r.length (flat r)] s := ref11_Refs_fn   ⟨r, h, rfl, rfl⟩
/-- catchword/catchwordref21.Next -/
def ref21_Next (v_0 : api_Value) : Option ((List Int)) :=
  bnd (ref11_Refs v_0) fun r1 =>
  jn (
    iter (fun ((out3, k4) : (List Int) × Int) =>
      if decide (k4 < (r1.length : Int)) then
        jn (
          need (0 ≤ k4 ∧ k4 < r1.length) <|
          need ((decide (ix r1 k4 ≥ 1)) = true → 0 ≤ k4 ∧ k4 < r1.length) <|
          if (decide (ix r1 k4 ≥ 1)) && (decide (ix r1 k4 ≤ 4096)) then
            need (0 ≤ k4 ∧ k4 < r1.length) <|
            need ((out3.length + [ix r1 k4].length) * 8 ≤ room) <|
            some (out3 ++ [ix r1 k4])
          else
            some out3) fun (out6 : (List Int)) =>
        some (.inl (out6, w64 (k4 + 1)))
      else
        some (.inr out3)) (([] : List Int), 0)) fun (out2 : (List Int)) =>
  some out2
def ir_ref21_Next : IC :=
 (.seq (.reg none [i1 1 (.boxL 4 (.t 0)),
 i1 2 (.mov true (.c (.sl true 1 0 [])))] [1])
 (.seq (.reg none [i1 3 (.mov true (.c (.sl true 1 0 [])))] [1, 3])
 (.seq (.reg none [i1 6 (.load 4 true (.t 1)),
 i1 7 (.call 65 [(.t 6)]),
 mt 4 7] [3, 4])
 (.join [(3, false)] (.seq (.reg none [i1 5 (.mov false (.c (.int .i64 0)))] [3, 4, 5])
 (.block 0 (.loop [(3, false), (4, true), (5, false)] (.seq (.seq (.reg none [mv 8 5,
 mv 9 4,
 i1 10 (.len 0 (.t 9)),
 i1 11 (.bin .lss (.t 8) (.t 10))] [3, 4, 5, 11])
 (.cond (.t 11) .skip
 (.exit 0)))
 (.join [(3, false), (4, true), (5, false)] (.block 1 (.seq (.reg none [mv 14 4,
 mv 15 5,
 i1 16 (.indexAddr [.int .i64 0] (.t 14) (.t 15)),
 i1 17 (.load 1 false (.t 16)),
 i1 18 (.bin .geq (.t 17) (.c (.int .i64 1))),
 mv 19 18,
 mvg 20 4 19 true,
 mvg 21 5 19 true,
 i1g 22 19 true (.indexAddr [.int .i64 0] (.t 20) (.t 21)),
 i1g 23 19 true (.load 1 false (.t 22)),
 i1g 24 19 true (.bin .leq (.t 23) (.c (.int .i64 4096))),
 i1 25 (.pick (.t 19) (.t 24) (.c (.bool false)))] [3, 4, 5, 25])
 (.cond (.t 25) (.reg none [mt 26 3,
 mv 27 4,
 mv 28 5,
 i1 29 (.indexAddr [.int .i64 0] (.t 27) (.t 28)),
 i1 30 (.load 1 false (.t 29)),
 i1 31 (.buildSl 1 1 [.int .i64 0] [(0, 1, (.t 30))]),
 i1 32 (.append 1 8 (.t 26) (.t 31)),
 mt 3 32] [3, 4, 5])
 .skip)))
 (.reg none [mv 12 5,
 i1 13 (.bin .add (.t 12) (.c (.int .i64 1))),
 mv 5 13] [3, 4, 5]))))))
 (.seq (.reg none [mt 33 3,
 mt 2 33] [2])
 .ret)))))
def res_ref21_Next : List IRes := [⟨2, true, none⟩]
theorem is_ref21_Next : fnIs Go.Proofs.Tryz.prog 38 34 res_ref21_Next ir_ref21_Next = true := by kernel_rfl
theorem ref21_Next_fn {v_0} {s : Store} {Q : List AV → Store → Prop}  : ok (ref21_Next v_0) (fun r => Q [.sl true 1 r.length (flat r)] s) → FN Go.Proofs.Tryz.prog 38 [.agg [.int .i64 v_0.Kind, .int .i64 v_0.N, .str v_0.S.b, .sl false 4 v_0.L.length (flat v_0.L)]] s Q := by
  intro h
  refine FN.of (draw_ok mix) is_ref21_Next rfl (Nat.le_of_ble_eq_true rfl) ?_
  revert h
  rw [ir_ref21_Next, res_ref21_Next, ref21_Next]
  repeat' (first
    | with_reducible exact tt_to
    | with_reducible refine and_to ?_ ?_
    | with_reducible refine im_to ?_
    | with_reducible refine call_to (fun _ (h : ref11_Refs v_0 = some _) => ref11_Refs_fe h) (fun r1 => ?_)
    | with_reducible refine call_to_q (fun _ (h : ref11_Refs v_0 = some _) => ref11_Refs_fe h) (fun _ => rfl) (fun r1 => ?_)
    | with_reducible refine call_to (fun _ (h : ref11_Refs v_0 = some _) => (by refine FE_cast ?_ (ref11_Refs_fe h); simp -implicitDefEqProofs only [go_sem, start, startE, resVs, resV, resC, allV, retK, Nat.reduceBEq, Nat.reduceAdd, Nat.reduceMul, Nat.reduceLeDiff, Nat.reduceEqDiff, Nat.reduceBNe, Nat.ble_eq, UInt8.reduceToNat])) (fun r1 => ?_)
    | with_reducible refine call_to_q (fun _ (h : ref11_Refs v_0 = some _) => (by refine FE_cast ?_ (ref11_Refs_fe h); simp -implicitDefEqProofs only [go_sem, start, startE, resVs, resV, resC, allV, retK, Nat.reduceBEq, Nat.reduceAdd, Nat.reduceMul, Nat.reduceLeDiff, Nat.reduceEqDiff, Nat.reduceBNe, Nat.ble_eq, UInt8.reduceToNat])) (fun _ => rfl) (fun r1 => ?_)
    | ((with_reducible refine join_to (fun (out6 : (List Int)) => ⟨[(3, .sl true 1 out6.length (flat out6)), (4, .sl false 1 r1.length (flat r1)), (5, .int .i64 k4)], [], s⟩) (fun J => ?_) ?_); rotate_left; rintro out6)
    | ((with_reducible refine iter_to (fun ((out3, k4) : (List Int) × Int) => ⟨[(3, .sl true 1 out3.length (flat out3)), (4, .sl false 1 r1.length (flat r1)), (5, .int .i64 k4)], [], s⟩) ?_ ?_); (first | exact rfl | simp -implicitDefEqProofs only [go_sem, start, startE, resVs, resV, resC, allV, retK, Nat.reduceBEq, Nat.reduceAdd, Nat.reduceMul, Nat.reduceLeDiff, Nat.reduceEqDiff, Nat.reduceBNe, Nat.ble_eq, UInt8.reduceToNat]); rintro J ⟨out3, k4⟩)
    | ((with_reducible refine join_to (fun (out2 : (List Int)) => ⟨[(3, .sl true 1 out2.length (flat out2))], [], s⟩) (fun J => ?_) ?_); rotate_left; rintro out2)
    | simp -implicitDefEqProofs only [go_sem, start, startE, resVs, resV, resC, allV, retK, Nat.reduceBEq, Nat.reduceAdd, Nat.reduceMul, Nat.reduceLeDiff, Nat.reduceEqDiff, Nat.reduceBNe, Nat.ble_eq, UInt8.reduceToNat])
theorem ref21_Next_fe {v_0} {s : Store} {r : (List Int)}  (h : ref21_Next v_0 = some r) : FE Go.Proofs.Tryz.prog 38 [.agg [.int .i64 v_0.Kind, .int .i64 v_0.N, .str v_0.S.b, .sl false 4 v_0.L.length (flat v_0.L)]] s [.sl true 1 r.length (flat r)] s := ref21_Next_fn   ⟨r, h, rfl, rfl⟩
/-- catchword/catchwordref21.has -/
def ref21_has (l_0 : (List Int)) (n_1 : Int) : Option (Bool) :=
  jnS (
    bndS (
      iter (fun (k2 : Int) =>
        if decide (k2 < (l_0.length : Int)) then
          need (0 ≤ k2 ∧ k2 < l_0.length) <|
          if (ix l_0 k2) == n_1 then
            some (.inr (.inr true))
          else
            some (.inl (w64 (k2 + 1)))
        else
          some (.inr (.inl ()))) 0) (fun (_ : Unit) =>
      some (.inl ()))
    (fun (t3 : Bool) => some (.inr t3))) (fun (_ : Unit) =>
    some false)
  (fun (t1 : Bool) => some t1)
def ir_ref21_has : IC :=
 (.seq (.reg none [i1 4 (.mov false (.c (.bool false)))] [0, 1])
 (.join [] (.seq (.reg none [i1 5 (.mov false (.c (.int .i64 0)))] [0, 1, 5])
 (.block 0 (.loop [(0, true), (1, false), (5, false)] (.seq (.seq (.reg none [mv 6 5,
 mv 7 0,
 i1 8 (.len 0 (.t 7)),
 i1 9 (.bin .lss (.t 6) (.t 8))] [0, 1, 5, 9])
 (.cond (.t 9) .skip
 (.exit 0)))
 (.seq (.block 1 (.seq (.reg none [mv 12 0,
 mv 13 5,
 i1 14 (.indexAddr [.int .i64 0] (.t 12) (.t 13)),
 i1 15 (.load 1 false (.t 14)),
 mv 16 1,
 i1 17 (.bin .eql (.t 15) (.t 16))] [0, 1, 5, 17])
 (.cond (.t 17) (.seq (.reg none [i1 4 (.mov false (.c (.bool true)))] [4])
 .ret)
 .skip)))
 (.reg none [mv 10 5,
 i1 11 (.bin .add (.t 10) (.c (.int .i64 1))),
 mv 5 11] [0, 1, 5]))))))
 (.seq (.reg none [i1 4 (.mov false (.c (.bool false)))] [4])
 .ret)))
def res_ref21_has : List IRes := [⟨4, true, none⟩]
theorem is_ref21_has : fnIs Go.Proofs.Tryz.prog 63 18 res_ref21_has ir_ref21_has = true := by kernel_rfl
theorem ref21_has_fn {l_0 n_1} {s : Store} {Q : List AV → Store → Prop}  : ok (ref21_has l_0 n_1) (fun r => Q [.bool r] s) → FN Go.Proofs.Tryz.prog 63 [.sl false 1 l_0.length (flat l_0), .int .i64 n_1] s Q := by
  intro h
  refine FN.of (draw_ok mix) is_ref21_has rfl (Nat.le_of_ble_eq_true rfl) ?_
  revert h
  rw [ir_ref21_has, res_ref21_has, ref21_has]
  repeat' (first
    | with_reducible exact tt_to
    | with_reducible refine and_to ?_ ?_
    | with_reducible refine im_to ?_
    | ((with_reducible refine iter_to (fun (k2 : Int) => ⟨[(0, .sl false 1 l_0.length (flat l_0)), (1, .int .i64 n_1), (5, .int .i64 k2)], [], s⟩) ?_ ?_); (first | exact rfl | simp -implicitDefEqProofs only [go_sem, start, startE, resVs, resV, resC, allV, retK, Nat.reduceBEq, Nat.reduceAdd, Nat.reduceMul, Nat.reduceLeDiff, Nat.reduceEqDiff, Nat.reduceBNe, Nat.ble_eq, UInt8.reduceToNat]); rintro J k2)
    | ((with_reducible refine join_toS (fun (_ : Unit) => ⟨[], [], s⟩) (fun J => ?_) ?_); rotate_left; rintro _)
    | simp -implicitDefEqProofs only [go_sem, start, startE, resVs, resV, resC, allV, retK, Nat.reduceBEq, Nat.reduceAdd, Nat.reduceMul, Nat.reduceLeDiff, Nat.reduceEqDiff, Nat.reduceBNe, Nat.ble_eq, UInt8.reduceToNat])
theorem ref21_has_fe {l_0 n_1} {s : Store} {r : Bool}  (h : ref21_has l_0 n_1 = some r) : FE Go.Proofs.Tryz.prog 63 [.sl false 1 l_0.length (flat l_0), .int .i64 n_1] s [.bool r] s := ref21_has_fn   ⟨r, h, rfl, rfl⟩
/-- catchword/catchwordref21.on -/
def ref21_on (l_0 : (List Int)) (more_1 : (List Int)) : Option ((List Int)) :=
  need ((([] : List Int).length + l_0.length) * 8 ≤ room) <|
  jn (
    iter (fun ((out2, k3) : (List Int) × Int) =>
      if decide (k3 < (more_1.length : Int)) then
        jn (
          need (0 ≤ k3 ∧ k3 < more_1.length) <|
          bnd (ref21_has out2 (ix more_1 k3)) fun r8 =>
          if !r8 then
            need (0 ≤ k3 ∧ k3 < more_1.length) <|
            need ((out2.length + [ix more_1 k3].length) * 8 ≤ room) <|
            some (out2 ++ [ix more_1 k3])
          else
            some out2) fun (out6 : (List Int)) =>
        some (.inl (out6, w64 (k3 + 1)))
      else
        some (.inr out2)) (l_0, 0)) fun (out1 : (List Int)) =>
  some out1
def ir_ref21_on : IC :=
 (.seq (.reg none [i1 4 (.mov true (.c (.sl true 1 0 [])))] [0, 1])
 (.seq (.reg none [i1 7 (.buildSl 1 0 [] []),
 mt 8 0,
 i1 9 (.append 1 8 (.t 7) (.t 8)),
 mt 5 9] [1, 5])
 (.join [(5, false)] (.seq (.reg none [i1 6 (.mov false (.c (.int .i64 0)))] [1, 5, 6])
 (.block 0 (.loop [(1, true), (5, false), (6, false)] (.seq (.seq (.reg none [mv 10 6,
 mv 11 1,
 i1 12 (.len 0 (.t 11)),
 i1 13 (.bin .lss (.t 10) (.t 12))] [1, 5, 6, 13])
 (.cond (.t 13) .skip
 (.exit 0)))
 (.join [(1, true), (5, false), (6, false)] (.block 1 (.seq (.reg none [mv 16 5,
 mv 17 1,
 mv 18 6,
 i1 19 (.indexAddr [.int .i64 0] (.t 17) (.t 18)),
 i1 20 (.load 1 false (.t 19)),
 i1 21 (.call 63 [(.t 16), (.t 20)]),
 i1 22 (.un .not (.t 21))] [1, 5, 6, 22])
 (.cond (.t 22) (.reg none [mt 23 5,
 mv 24 1,
 mv 25 6,
 i1 26 (.indexAddr [.int .i64 0] (.t 24) (.t 25)),
 i1 27 (.load 1 false (.t 26)),
 i1 28 (.buildSl 1 1 [.int .i64 0] [(0, 1, (.t 27))]),
 i1 29 (.append 1 8 (.t 23) (.t 28)),
 mt 5 29] [1, 5, 6])
 .skip)))
 (.reg none [mv 14 6,
 i1 15 (.bin .add (.t 14) (.c (.int .i64 1))),
 mv 6 15] [1, 5, 6]))))))
 (.seq (.reg none [mt 30 5,
 mt 4 30] [4])
 .ret))))
def res_ref21_on : List IRes := [⟨4, true, none⟩]
theorem is_ref21_on : fnIs Go.Proofs.Tryz.prog 36 31 res_ref21_on ir_ref21_on = true := by kernel_rfl
theorem ref21_on_fn {l_0 more_1} {s : Store} {Q : List AV → Store → Prop}  : ok (ref21_on l_0 more_1) (fun r => Q [.sl true 1 r.length (flat r)] s) → FN Go.Proofs.Tryz.prog 36 [.sl false 1 l_0.length (flat l_0), .sl false 1 more_1.length (flat more_1)] s Q := by
  intro h
  refine FN.of (draw_ok mix) is_ref21_on rfl (Nat.le_of_ble_eq_true rfl) ?_
  revert h
  rw [ir_ref21_on, res_ref21_on, ref21_on]
  repeat' (first
    | with_reducible exact tt_to
    | with_reducible refine and_to ?_ ?_
    | with_reducible refine im_to ?_
    | with_reducible refine call_to (fun _ (h : ref21_has out2 (ix more_1 k3) = some _) => ref21_has_fe h) (fun r8 => ?_)
    | with_reducible refine call_to_q (fun _ (h : ref21_has out2 (ix more_1 k3) = some _) => ref21_has_fe h) (fun _ => rfl) (fun r8 => ?_)
    | with_reducible refine call_to (fun _ (h : ref21_has out2 (ix more_1 k3) = some _) => (by refine FE_cast ?_ (ref21_has_fe h); simp -implicitDefEqProofs only [go_sem, start, startE, resVs, resV, resC, allV, retK, Nat.reduceBEq, Nat.reduceAdd, Nat.reduceMul, Nat.reduceLeDiff, Nat.reduceEqDiff, Nat.reduceBNe, Nat.ble_eq, UInt8.reduceToNat])) (fun r8 => ?_)
    | with_reducible refine call_to_q (fun _ (h : ref21_has out2 (ix more_1 k3) = some _) => (by refine FE_cast ?_ (ref21_has_fe h); simp -implicitDefEqProofs only [go_sem, start, startE, resVs, resV, resC, allV, retK, Nat.reduceBEq, Nat.reduceAdd, Nat.reduceMul, Nat.reduceLeDiff, Nat.reduceEqDiff, Nat.reduceBNe, Nat.ble_eq, UInt8.reduceToNat])) (fun _ => rfl) (fun r8 => ?_)
    | ((with_reducible refine join_to (fun (out6 : (List Int)) => ⟨[(1, .sl false 1 more_1.length (flat more_1)), (5, .sl true 1 out6.length (flat out6)), (6, .int .i64 k3)], [], s⟩) (fun J => ?_) ?_); rotate_left; rintro out6)
    | ((with_reducible refine iter_to (fun ((out2, k3) : (List Int) × Int) => ⟨[(1, .sl false 1 more_1.length (flat more_1)), (5, .sl true 1 out2.length (flat out2)), (6, .int .i64 k3)], [], s⟩) ?_ ?_); (first | exact rfl | simp -implicitDefEqProofs only [go_sem, start, startE, resVs, resV, resC, allV, retK, Nat.reduceBEq, Nat.reduceAdd, Nat.reduceMul, Nat.reduceLeDiff, Nat.reduceEqDiff, Nat.reduceBNe, Nat.ble_eq, UInt8.reduceToNat]); rintro J ⟨out2, k3⟩)
    | ((with_reducible refine join_to (fun (out1 : (List Int)) => ⟨[(5, .sl true 1 out1.length (flat out1))], [], s⟩) (fun J => ?_) ?_); rotate_left; rintro out1)
    | simp -implicitDefEqProofs only [go_sem, start, startE, resVs, resV, resC, allV, retK, Nat.reduceBEq, Nat.reduceAdd, Nat.reduceMul, Nat.reduceLeDiff, Nat.reduceEqDiff, Nat.reduceBNe, Nat.ble_eq, UInt8.reduceToNat])
theorem ref21_on_fe {l_0 more_1} {s : Store} {r : (List Int)}  (h : ref21_on l_0 more_1 = some r) : FE Go.Proofs.Tryz.prog 36 [.sl false 1 l_0.length (flat l_0), .sl false 1 more_1.length (flat more_1)] s [.sl true 1 r.length (flat r)] s := ref21_on_fn   ⟨r, h, rfl, rfl⟩
/-- catchword/catchwordref21.First -/
def ref21_First (v_0 : api_Value) (given_1 : api_Value) : Option ((List Int)) :=
  bnd (ref11_Drop v_0 (Str.mk [80, 97, 114, 101, 110, 116])) fun r1 =>
  bnd (ref21_Next r1) fun r2 =>
  bnd (ref21_Next given_1) fun r3 =>
  bnd (ref21_on r2 r3) fun r4 =>
  some r4
def ir_ref21_First : IC :=
 (.seq (.reg none [i1 2 (.boxL 4 (.t 0)),
 i1 3 (.boxL 4 (.t 1)),
 i1 4 (.mov true (.c (.sl true 1 0 [])))] [2, 3])
 (.seq (.reg (some 7) [i1 5 (.load 4 true (.t 2)),
 i1 6 (.call 64 [(.t 5), (.c (.str [80, 97, 114, 101, 110, 116]))]),
 i1 7 (.call 38 [(.t 6)]),
 i1 8 (.load 4 true (.t 3)),
 i1 9 (.call 38 [(.t 8)]),
 i1 10 (.call 36 [(.t 7), (.t 9)]),
 mv 4 10] [4])
 .ret))
def res_ref21_First : List IRes := [⟨4, false, none⟩]
theorem is_ref21_First : fnIs Go.Proofs.Tryz.prog 37 11 res_ref21_First ir_ref21_First = true := by kernel_rfl
theorem ref21_First_fn {v_0 given_1} {s : Store} {Q : List AV → Store → Prop}  : ok (ref21_First v_0 given_1) (fun r => Q [.sl false 1 r.length (flat r)] s) → FN Go.Proofs.Tryz.prog 37 [.agg [.int .i64 v_0.Kind, .int .i64 v_0.N, .str v_0.S.b, .sl false 4 v_0.L.length (flat v_0.L)], .agg [.int .i64 given_1.Kind, .int .i64 given_1.N, .str given_1.S.b, .sl false 4 given_1.L.length (flat given_1.L)]] s Q := by
  intro h
  refine FN.of (draw_ok mix) is_ref21_First rfl (Nat.le_of_ble_eq_true rfl) ?_
  revert h
  rw [ir_ref21_First, res_ref21_First, ref21_First]
  repeat' (first
    | with_reducible exact tt_to
    | with_reducible refine and_to ?_ ?_
    | with_reducible refine im_to ?_
    | with_reducible refine call_to (fun _ (h : ref11_Drop v_0 (Str.mk [80, 97, 114, 101, 110, 116]) = some _) => ref11_Drop_fe h) (fun r1 => ?_)
    | with_reducible refine call_to_q (fun _ (h : ref11_Drop v_0 (Str.mk [80, 97, 114, 101, 110, 116]) = some _) => ref11_Drop_fe h) (fun _ => rfl) (fun r1 => ?_)
    | with_reducible refine call_to (fun _ (h : ref11_Drop v_0 (Str.mk [80, 97, 114, 101, 110, 116]) = some _) => (by refine FE_cast ?_ (ref11_Drop_fe h); simp -implicitDefEqProofs only [go_sem, start, startE, resVs, resV, resC, allV, retK, Nat.reduceBEq, Nat.reduceAdd, Nat.reduceMul, Nat.reduceLeDiff, Nat.reduceEqDiff, Nat.reduceBNe, Nat.ble_eq, UInt8.reduceToNat])) (fun r1 => ?_)
    | with_reducible refine call_to_q (fun _ (h : ref11_Drop v_0 (Str.mk [80, 97, 114, 101, 110, 116]) = some _) => (by refine FE_cast ?_ (ref11_Drop_fe h); simp -implicitDefEqProofs only [go_sem, start, startE, resVs, resV, resC, allV, retK, Nat.reduceBEq, Nat.reduceAdd, Nat.reduceMul, Nat.reduceLeDiff, Nat.reduceEqDiff, Nat.reduceBNe, Nat.ble_eq, UInt8.reduceToNat])) (fun _ => rfl) (fun r1 => ?_)
    | with_reducible refine call_to (fun _ (h : ref21_Next r1 = some _) => ref21_Next_fe h) (fun r2 => ?_)
    | with_reducible refine call_to_q (fun _ (h : ref21_Next r1 = some _) => ref21_Next_fe h) (fun _ => rfl) (fun r2 => ?_)
    | with_reducible refine call_to (fun _ (h : ref21_Next r1 = some _) => (by refine FE_cast ?_ (ref21_Next_fe h); simp -implicitDefEqProofs only [go_sem, start, startE, resVs, resV, resC, allV, retK, Nat.reduceBEq, Nat.reduceAdd, Nat.reduceMul, Nat.reduceLeDiff, Nat.reduceEqDiff, Nat.reduceBNe, Nat.ble_eq, UInt8.reduceToNat])) (fun r2 => ?_)
    | with_reducible refine call_to_q (fun _ (h : ref21_Next r1 = some _) => (by refine FE_cast ?_ (ref21_Next_fe h); simp -implicitDefEqProofs only [go_sem, start, startE, resVs, resV, resC, allV, retK, Nat.reduceBEq, Nat.reduceAdd, Nat.reduceMul, Nat.reduceLeDiff, Nat.reduceEqDiff, Nat.reduceBNe, Nat.ble_eq, UInt8.reduceToNat])) (fun _ => rfl) (fun r2 => ?_)
    | with_reducible refine call_to (fun _ (h : ref21_Next given_1 = some _) => ref21_Next_fe h) (fun r3 => ?_)
    | with_reducible refine call_to_q (fun _ (h : ref21_Next given_1 = some _) => ref21_Next_fe h) (fun _ => rfl) (fun r3 => ?_)
    | with_reducible refine call_to (fun _ (h : ref21_Next given_1 = some _) => (by refine FE_cast ?_ (ref21_Next_fe h); simp -implicitDefEqProofs only [go_sem, start, startE, resVs, resV, resC, allV, retK, Nat.reduceBEq, Nat.reduceAdd, Nat.reduceMul, Nat.reduceLeDiff, Nat.reduceEqDiff, Nat.reduceBNe, Nat.ble_eq, UInt8.reduceToNat])) (fun r3 => ?_)
    | with_reducible refine call_to_q (fun _ (h : ref21_Next given_1 = some _) => (by refine FE_cast ?_ (ref21_Next_fe h); simp -implicitDefEqProofs only [go_sem, start, startE, resVs, resV, resC, allV, retK, Nat.reduceBEq, Nat.reduceAdd, Nat.reduceMul, Nat.reduceLeDiff, Nat.reduceEqDiff, Nat.reduceBNe, Nat.ble_eq, UInt8.reduceToNat])) (fun _ => rfl) (fun r3 => ?_)
    | with_reducible refine call_to (fun _ (h : ref21_on r2 r3 = some _) => ref21_on_fe h) (fun r4 => ?_)
    | with_reducible refine call_to_q (fun _ (h : ref21_on r2 r3 = some _) => ref21_on_fe h) (fun _ => rfl) (fun r4 => ?_)
    | with_reducible refine call_to (fun _ (h : ref21_on r2 r3 = some _) => (by refine FE_cast ?_ (ref21_on_fe h); simp -implicitDefEqProofs only [go_sem, start, startE, resVs, resV, resC, allV, retK, Nat.reduceBEq, Nat.reduceAdd, Nat.reduceMul, Nat.reduceLeDiff, Nat.reduceEqDiff, Nat.reduceBNe, Nat.ble_eq, UInt8.reduceToNat])) (fun r4 => ?_)
    | with_reducible refine call_to_q (fun _ (h : ref21_on r2 r3 = some _) => (by refine FE_cast ?_ (ref21_on_fe h); simp -implicitDefEqProofs only [go_sem, start, startE, resVs, resV, resC, allV, retK, Nat.reduceBEq, Nat.reduceAdd, Nat.reduceMul, Nat.reduceLeDiff, Nat.reduceEqDiff, Nat.reduceBNe, Nat.ble_eq, UInt8.reduceToNat])) (fun _ => rfl) (fun r4 => ?_)
    | simp -implicitDefEqProofs only [go_sem, start, startE, resVs, resV, resC, allV, retK, Nat.reduceBEq, Nat.reduceAdd, Nat.reduceMul, Nat.reduceLeDiff, Nat.reduceEqDiff, Nat.reduceBNe, Nat.ble_eq, UInt8.reduceToNat])
theorem ref21_First_fe {v_0 given_1} {s : Store} {r : (List Int)}  (h : ref21_First v_0 given_1 = some r) : FE Go.Proofs.Tryz.prog 37 [.agg [.int .i64 v_0.Kind, .int .i64 v_0.N, .str v_0.S.b, .sl false 4 v_0.L.length (flat v_0.L)], .agg [.int .i64 given_1.Kind, .int .i64 given_1.N, .str given_1.S.b, .sl false 4 given_1.L.length (flat given_1.L)]] s [.sl false 1 r.length (flat r)] s := ref21_First_fn   ⟨r, h, rfl, rfl⟩
/-- catchword/catchwordref21.Closure -/
def ref21_Closure (f_0 : ref19_File) (l_1 : ref20_Leaf) : Option ((List Int) × (List api_Object) × Int × Int) :=
  jnS (
    bndS (
      iter (fun ((row7, out8, k9) : (List Int) × (List api_Object) × Int) =>
        if decide (k9 < (row7.length : Int)) then
          need (0 ≤ k9 ∧ k9 < row7.length) <|
          bnd (ref19_Get f_0 (ix row7 k9)) fun r16 =>
          if r16.2.2 != 0 then
            some (.inr (.inr (([] : List Int), ([] : List api_Object), r16.2.1, r16.2.2)))
          else
            jn (
              if k9 == 0 then
                bnd (ref21_First r16.1.V l_1.Given) fun r23 =>
                bnd (ref21_on row7 r23) fun r24 =>
                some r24
              else
                bnd (ref21_Next r16.1.V) fun r25 =>
                bnd (ref21_on row7 r25) fun r26 =>
                some r26) fun (row19 : (List Int)) =>
            need ((out8.length + [r16.1].length) * 80 ≤ room) <|
            some (.inl (row19, out8 ++ [r16.1], w64 (k9 + 1)))
        else
          some (.inr (.inl (row7, out8)))) ([l_1.Page], ([] : List api_Object), 0)) (fun ((row10, out11) : (List Int) × (List api_Object)) =>
      some (.inl (row10, out11)))
    (fun ((t12, t13, t14, t15) : (List Int) × (List api_Object) × Int × Int) => some (.inr (t12, t13, t14, t15)))) (fun ((row1, out2) : (List Int) × (List api_Object)) =>
    some (row1, out2, 0, 0))
  (fun ((t3, t4, t5, t6) : (List Int) × (List api_Object) × Int × Int) => some (t3, t4, t5, t6))
def ir_ref21_Closure : IC :=
 (.seq (.reg none [i1 2 (.boxL 6 (.t 0)),
 i1 3 (.boxL 6 (.t 1)),
 i1 4 (.mov true (.c (.sl true 1 0 []))),
 i1 5 (.mov true (.c (.sl true 6 0 []))),
 i1 6 (.mov false (.c (.int .i64 0))),
 i1 7 (.mov false (.c (.int .i64 0)))] [2, 3])
 (.seq (.reg none [i1 14 (.fieldAddr 0 (.t 3)),
 i1 15 (.load 1 false (.t 14)),
 i1 16 (.buildSl 1 1 [.int .i64 0] [(0, 1, (.t 15))]),
 mt 8 16] [2, 3, 8])
 (.seq (.reg none [i1 9 (.mov true (.c (.sl true 6 0 [])))] [2, 3, 8, 9])
 (.join [(8, false), (9, false)] (.seq (.reg none [i1 10 (.mov false (.c (.int .i64 0)))] [2, 3, 8, 9, 10])
 (.block 0 (.loop [(2, false), (3, false), (8, false), (9, false), (10, false)] (.seq (.seq (.reg none [mv 17 10,
 mv 18 8,
 i1 19 (.len 0 (.t 18)),
 i1 20 (.bin .lss (.t 17) (.t 19))] [2, 3, 8, 9, 10, 20])
 (.cond (.t 20) .skip
 (.exit 0)))
 (.seq (.block 1 (.seq (.regT [11] 14 [i1 24 (.load 6 true (.t 2)),
 mv 25 8,
 mv 26 10,
 i1 27 (.indexAddr [.int .i64 0] (.t 25) (.t 26)),
 i1 28 (.load 1 false (.t 27)),
 i1 29 (.call 35 [(.t 24), (.t 28)]),
 i1 23 (.movT (.t 29)),
 i1 30 (.extract (.t 23) 0),
 i1 31 (.extract (.t 23) 1),
 i1 32 (.extract (.t 23) 2),
 i1 11 (.allocL [.int .i64 0, .int .i64 0, .str [], .sl true 4 0 [], .bool false, .str []]),
 i0 (.store 6 (.t 11) (.t 30)),
 mv 12 31,
 mv 13 32] [2, 3, 8, 9, 10, 11, 12, 13])
 (.seq (.seq (.reg none [mv 33 13,
 i1 34 (.bin .neq (.t 33) (.c (.int .i64 0)))] [2, 3, 8, 9, 10, 11, 12, 13, 34])
 (.cond (.t 34) (.seq (.reg none [mv 35 12,
 mv 36 13,
 i1 4 (.mov true (.c (.sl true 1 0 []))),
 i1 5 (.mov true (.c (.sl true 6 0 []))),
 mv 6 35,
 mv 7 36] [4, 5, 6, 7])
 .ret)
 .skip))
 (.join [(2, false), (3, false), (8, false), (9, false), (10, false), (11, false)] (.seq (.reg none [mv 37 10,
 i1 38 (.bin .eql (.t 37) (.c (.int .i64 0)))] [2, 3, 8, 9, 10, 11, 38])
 (.cond (.t 38) (.reg none [mt 39 8,
 i1 40 (.fieldAddr 0 (.t 11)),
 i1 41 (.load 4 true (.t 40)),
 i1 42 (.fieldAddr 2 (.t 3)),
 i1 43 (.load 4 true (.t 42)),
 i1 44 (.call 37 [(.t 41), (.t 43)]),
 i1 45 (.call 36 [(.t 39), (.t 44)]),
 mt 8 45] [2, 3, 8, 9, 10, 11])
 (.reg none [mt 46 8,
 i1 47 (.fieldAddr 0 (.t 11)),
 i1 48 (.load 4 true (.t 47)),
 i1 49 (.call 38 [(.t 48)]),
 i1 50 (.call 36 [(.t 46), (.t 49)]),
 mt 8 50] [2, 3, 8, 9, 10, 11])))
 (.reg none [mt 51 9,
 i1 52 (.load 6 true (.t 11)),
 i1 53 (.buildSl 6 1 [.int .i64 0, .int .i64 0, .str [], .sl true 4 0 [], .bool false, .str []] [(0, 6, (.t 52))]),
 i1 54 (.append 6 80 (.t 51) (.t 53)),
 mt 9 54] [2, 3, 8, 9, 10])))))
 (.reg none [mv 21 10,
 i1 22 (.bin .add (.t 21) (.c (.int .i64 1))),
 mv 10 22] [2, 3, 8, 9, 10]))))))
 (.seq (.reg none [mt 55 8,
 mt 56 9,
 mt 4 55,
 mt 5 56,
 i1 6 (.mov false (.c (.int .i64 0))),
 i1 7 (.mov false (.c (.int .i64 0)))] [4, 5, 6, 7])
 .ret)))))
def res_ref21_Closure : List IRes := [⟨4, true, none⟩, ⟨5, true, none⟩, ⟨6, true, none⟩, ⟨7, true, none⟩]
theorem is_ref21_Closure : fnIs Go.Proofs.Tryz.prog 12 57 res_ref21_Closure ir_ref21_Closure = true := by kernel_rfl
theorem ref21_Closure_fn {f_0 l_1} {s : Store} {Q : List AV → Store → Prop}  : ok (ref21_Closure f_0 l_1) (fun r => Q [.sl true 1 r.1.length (flat r.1), .sl true 6 r.2.1.length (flat r.2.1), .int .i64 r.2.2.1, .int .i64 r.2.2.2] s) → FN Go.Proofs.Tryz.prog 12 [.agg [.bool true, .sl false 6 f_0.Objects.length (flat f_0.Objects), .sl false 1 f_0.Bytes.B.length (flat f_0.Bytes.B), .sl false 1 f_0.Bytes.Known.length (flat f_0.Bytes.Known), .sl false 1 f_0.Table.Places.length (flat f_0.Table.Places), .int .i64 f_0.Table.Root], .agg [.int .i64 l_1.Page, .sl false 1 l_1.Path.length (flat l_1.Path), .int .i64 l_1.Given.Kind, .int .i64 l_1.Given.N, .str l_1.Given.S.b, .sl false 4 l_1.Given.L.length (flat l_1.Given.L)]] s Q := by
  intro h
  refine FN.of (draw_ok mix) is_ref21_Closure rfl (Nat.le_of_ble_eq_true rfl) ?_
  revert h
  rw [ir_ref21_Closure, res_ref21_Closure, ref21_Closure]
  repeat' (first
    | with_reducible exact tt_to
    | ((with_reducible refine b_to ?_ ?_); exact rfl)
    | ((with_reducible refine n_to ?_ ?_); exact rfl)
    | with_reducible refine and_to ?_ ?_
    | with_reducible refine im_to ?_
    | with_reducible refine call_to (fun _ (h : ref19_Get f_0 (ix row7 k9) = some _) => ref19_Get_fe h) (fun r16 => ?_)
    | with_reducible refine call_to_q (fun _ (h : ref19_Get f_0 (ix row7 k9) = some _) => ref19_Get_fe h) (fun _ => rfl) (fun r16 => ?_)
    | with_reducible refine call_to (fun _ (h : ref19_Get f_0 (ix row7 k9) = some _) => (by refine FE_cast ?_ (ref19_Get_fe h); simp -implicitDefEqProofs only [go_sem, start, startE, resVs, resV, resC, allV, retK, Nat.reduceBEq, Nat.reduceAdd, Nat.reduceMul, Nat.reduceLeDiff, Nat.reduceEqDiff, Nat.reduceBNe, Nat.ble_eq, UInt8.reduceToNat])) (fun r16 => ?_)
    | with_reducible refine call_to_q (fun _ (h : ref19_Get f_0 (ix row7 k9) = some _) => (by refine FE_cast ?_ (ref19_Get_fe h); simp -implicitDefEqProofs only [go_sem, start, startE, resVs, resV, resC, allV, retK, Nat.reduceBEq, Nat.reduceAdd, Nat.reduceMul, Nat.reduceLeDiff, Nat.reduceEqDiff, Nat.reduceBNe, Nat.ble_eq, UInt8.reduceToNat])) (fun _ => rfl) (fun r16 => ?_)
    | with_reducible refine call_to (fun _ (h : ref21_First r16.1.V l_1.Given = some _) => ref21_First_fe h) (fun r23 => ?_)
    | with_reducible refine call_to_q (fun _ (h : ref21_First r16.1.V l_1.Given = some _) => ref21_First_fe h) (fun _ => rfl) (fun r23 => ?_)
    | with_reducible refine call_to (fun _ (h : ref21_First r16.1.V l_1.Given = some _) => (by refine FE_cast ?_ (ref21_First_fe h); simp -implicitDefEqProofs only [go_sem, start, startE, resVs, resV, resC, allV, retK, Nat.reduceBEq, Nat.reduceAdd, Nat.reduceMul, Nat.reduceLeDiff, Nat.reduceEqDiff, Nat.reduceBNe, Nat.ble_eq, UInt8.reduceToNat])) (fun r23 => ?_)
    | with_reducible refine call_to_q (fun _ (h : ref21_First r16.1.V l_1.Given = some _) => (by refine FE_cast ?_ (ref21_First_fe h); simp -implicitDefEqProofs only [go_sem, start, startE, resVs, resV, resC, allV, retK, Nat.reduceBEq, Nat.reduceAdd, Nat.reduceMul, Nat.reduceLeDiff, Nat.reduceEqDiff, Nat.reduceBNe, Nat.ble_eq, UInt8.reduceToNat])) (fun _ => rfl) (fun r23 => ?_)
    | with_reducible refine call_to (fun _ (h : ref21_on row7 r23 = some _) => ref21_on_fe h) (fun r24 => ?_)
    | with_reducible refine call_to_q (fun _ (h : ref21_on row7 r23 = some _) => ref21_on_fe h) (fun _ => rfl) (fun r24 => ?_)
    | with_reducible refine call_to (fun _ (h : ref21_on row7 r23 = some _) => (by refine FE_cast ?_ (ref21_on_fe h); simp -implicitDefEqProofs only [go_sem, start, startE, resVs, resV, resC, allV, retK, Nat.reduceBEq, Nat.reduceAdd, Nat.reduceMul, Nat.reduceLeDiff, Nat.reduceEqDiff, Nat.reduceBNe, Nat.ble_eq, UInt8.reduceToNat])) (fun r24 => ?_)
    | with_reducible refine call_to_q (fun _ (h : ref21_on row7 r23 = some _) => (by refine FE_cast ?_ (ref21_on_fe h); simp -implicitDefEqProofs only [go_sem, start, startE, resVs, resV, resC, allV, retK, Nat.reduceBEq, Nat.reduceAdd, Nat.reduceMul, Nat.reduceLeDiff, Nat.reduceEqDiff, Nat.reduceBNe, Nat.ble_eq, UInt8.reduceToNat])) (fun _ => rfl) (fun r24 => ?_)
    | with_reducible refine call_to (fun _ (h : ref21_Next r16.1.V = some _) => ref21_Next_fe h) (fun r25 => ?_)
    | with_reducible refine call_to_q (fun _ (h : ref21_Next r16.1.V = some _) => ref21_Next_fe h) (fun _ => rfl) (fun r25 => ?_)
    | with_reducible refine call_to (fun _ (h : ref21_Next r16.1.V = some _) => (by refine FE_cast ?_ (ref21_Next_fe h); simp -implicitDefEqProofs only [go_sem, start, startE, resVs, resV, resC, allV, retK, Nat.reduceBEq, Nat.reduceAdd, Nat.reduceMul, Nat.reduceLeDiff, Nat.reduceEqDiff, Nat.reduceBNe, Nat.ble_eq, UInt8.reduceToNat])) (fun r25 => ?_)
    | with_reducible refine call_to_q (fun _ (h : ref21_Next r16.1.V = some _) => (by refine FE_cast ?_ (ref21_Next_fe h); simp -implicitDefEqProofs only [go_sem, start, startE, resVs, resV, resC, allV, retK, Nat.reduceBEq, Nat.reduceAdd, Nat.reduceMul, Nat.reduceLeDiff, Nat.reduceEqDiff, Nat.reduceBNe, Nat.ble_eq, UInt8.reduceToNat])) (fun _ => rfl) (fun r25 => ?_)
    | with_reducible refine call_to (fun _ (h : ref21_on row7 r25 = some _) => ref21_on_fe h) (fun r26 => ?_)
    | with_reducible refine call_to_q (fun _ (h : ref21_on row7 r25 = some _) => ref21_on_fe h) (fun _ => rfl) (fun r26 => ?_)
    | with_reducible refine call_to (fun _ (h : ref21_on row7 r25 = some _) => (by refine FE_cast ?_ (ref21_on_fe h); simp -implicitDefEqProofs only [go_sem, start, startE, resVs, resV, resC, allV, retK, Nat.reduceBEq, Nat.reduceAdd, Nat.reduceMul, Nat.reduceLeDiff, Nat.reduceEqDiff, Nat.reduceBNe, Nat.ble_eq, UInt8.reduceToNat])) (fun r26 => ?_)
    | with_reducible refine call_to_q (fun _ (h : ref21_on row7 r25 = some _) => (by refine FE_cast ?_ (ref21_on_fe h); simp -implicitDefEqProofs only [go_sem, start, startE, resVs, resV, resC, allV, retK, Nat.reduceBEq, Nat.reduceAdd, Nat.reduceMul, Nat.reduceLeDiff, Nat.reduceEqDiff, Nat.reduceBNe, Nat.ble_eq, UInt8.reduceToNat])) (fun _ => rfl) (fun r26 => ?_)
    | ((with_reducible refine join_to (fun (row19 : (List Int)) => ⟨[(2, .loc [.bool true, .sl false 6 f_0.Objects.length (flat f_0.Objects), .sl false 1 f_0.Bytes.B.length (flat f_0.Bytes.B), .sl false 1 f_0.Bytes.Known.length (flat f_0.Bytes.Known), .sl false 1 f_0.Table.Places.length (flat f_0.Table.Places), .int .i64 f_0.Table.Root]), (3, .loc [.int .i64 l_1.Page, .sl false 1 l_1.Path.length (flat l_1.Path), .int .i64 l_1.Given.Kind, .int .i64 l_1.Given.N, .str l_1.Given.S.b, .sl false 4 l_1.Given.L.length (flat l_1.Given.L)]), (8, .sl true 1 row19.length (flat row19)), (9, .sl true 6 out8.length (flat out8)), (10, .int .i64 k9), (11, .loc [.int .i64 r16.1.V.Kind, .int .i64 r16.1.V.N, .str r16.1.V.S.b, .sl false 4 r16.1.V.L.length (flat r16.1.V.L), .bool r16.1.Stream, .str r16.1.Data.b])], [], s⟩) (fun J => ?_) ?_); rotate_left; rintro row19)
    | ((with_reducible refine iter_to (fun ((row7, out8, k9) : (List Int) × (List api_Object) × Int) => ⟨[(2, .loc [.bool true, .sl false 6 f_0.Objects.length (flat f_0.Objects), .sl false 1 f_0.Bytes.B.length (flat f_0.Bytes.B), .sl false 1 f_0.Bytes.Known.length (flat f_0.Bytes.Known), .sl false 1 f_0.Table.Places.length (flat f_0.Table.Places), .int .i64 f_0.Table.Root]), (3, .loc [.int .i64 l_1.Page, .sl false 1 l_1.Path.length (flat l_1.Path), .int .i64 l_1.Given.Kind, .int .i64 l_1.Given.N, .str l_1.Given.S.b, .sl false 4 l_1.Given.L.length (flat l_1.Given.L)]), (8, .sl true 1 row7.length (flat row7)), (9, .sl true 6 out8.length (flat out8)), (10, .int .i64 k9)], [], s⟩) ?_ ?_); (first | exact rfl | simp -implicitDefEqProofs only [go_sem, start, startE, resVs, resV, resC, allV, retK, Nat.reduceBEq, Nat.reduceAdd, Nat.reduceMul, Nat.reduceLeDiff, Nat.reduceEqDiff, Nat.reduceBNe, Nat.ble_eq, UInt8.reduceToNat]); rintro J ⟨row7, out8, k9⟩)
    | ((with_reducible refine join_toS (fun ((row1, out2) : (List Int) × (List api_Object)) => ⟨[(8, .sl true 1 row1.length (flat row1)), (9, .sl true 6 out2.length (flat out2))], [], s⟩) (fun J => ?_) ?_); rotate_left; rintro ⟨row1, out2⟩)
    | simp -implicitDefEqProofs only [go_sem, start, startE, resVs, resV, resC, allV, retK, Nat.reduceBEq, Nat.reduceAdd, Nat.reduceMul, Nat.reduceLeDiff, Nat.reduceEqDiff, Nat.reduceBNe, Nat.ble_eq, UInt8.reduceToNat])
theorem ref21_Closure_fe {f_0 l_1} {s : Store} {r : (List Int) × (List api_Object) × Int × Int}  (h : ref21_Closure f_0 l_1 = some r) : FE Go.Proofs.Tryz.prog 12 [.agg [.bool true, .sl false 6 f_0.Objects.length (flat f_0.Objects), .sl false 1 f_0.Bytes.B.length (flat f_0.Bytes.B), .sl false 1 f_0.Bytes.Known.length (flat f_0.Bytes.Known), .sl false 1 f_0.Table.Places.length (flat f_0.Table.Places), .int .i64 f_0.Table.Root], .agg [.int .i64 l_1.Page, .sl false 1 l_1.Path.length (flat l_1.Path), .int .i64 l_1.Given.Kind, .int .i64 l_1.Given.N, .str l_1.Given.S.b, .sl false 4 l_1.Given.L.length (flat l_1.Given.L)]] s [.sl true 1 r.1.length (flat r.1), .sl true 6 r.2.1.length (flat r.2.1), .int .i64 r.2.2.1, .int .i64 r.2.2.2] s := ref21_Closure_fn   ⟨r, h, rfl, rfl⟩
/-- catchword/catchwordref11.Compare -/
def ref11_Compare : Nat → api_Value → api_Value → Option (Int)
  | 0, _, _ => none
  | fuel + 1, a_0, b_1 =>
    if (decide (a_0.Kind < b_1.Kind)) || ((a_0.Kind == b_1.Kind) && ((decide (a_0.N < b_1.N)) || ((a_0.N == b_1.N) && (Op.bytesLess a_0.S.b b_1.S.b)))) then
      some (-1)
    else
      if ((a_0.Kind != b_1.Kind) || (a_0.N != b_1.N)) || (!(a_0.S.b == b_1.S.b)) then
        some 1
      else
        jnS (
          bndS (
            iter (fun (k4 : Int) =>
              if (decide (k4 < (a_0.L.length : Int))) && (decide (k4 < (b_1.L.length : Int))) then
                need (0 ≤ k4 ∧ k4 < a_0.L.length) <|
                need (0 ≤ k4 ∧ k4 < b_1.L.length) <|
                bnd (ref11_Compare fuel (ix a_0.L k4) (ix b_1.L k4)) fun r8 =>
                if r8 != 0 then
                  some (.inr (.inr r8))
                else
                  some (.inl (w64 (k4 + 1)))
              else
                some (.inr (.inl ()))) 0) (fun (_ : Unit) =>
            some (.inl ()))
          (fun (t7 : Int) => some (.inr t7))) (fun (_ : Unit) =>
          if decide ((a_0.L.length : Int) < (b_1.L.length : Int)) then
            some (-1)
          else
            if decide ((a_0.L.length : Int) > (b_1.L.length : Int)) then
              some 1
            else
              some 0)
        (fun (t3 : Int) => some t3)
def ir_ref11_Compare : IC :=
 (.seq (.reg none [i1 2 (.boxL 4 (.t 0)),
 i1 3 (.boxL 4 (.t 1)),
 i1 4 (.mov false (.c (.int .i64 0)))] [2, 3])
 (.seq (.block 0 (.seq (.reg none [i1 8 (.fieldAddr 0 (.t 2)),
 i1 9 (.load 1 false (.t 8)),
 i1 10 (.fieldAddr 0 (.t 3)),
 i1 11 (.load 1 false (.t 10)),
 i1 12 (.bin .lss (.t 9) (.t 11)),
 mv 13 12,
 i1g 14 13 false (.fieldAddr 0 (.t 2)),
 i1g 15 13 false (.load 1 false (.t 14)),
 i1g 16 13 false (.fieldAddr 0 (.t 3)),
 i1g 17 13 false (.load 1 false (.t 16)),
 i1g 18 13 false (.bin .eql (.t 15) (.t 17)),
 mvg 19 18 13 false,
 i1g 20 19 true (.fieldAddr 1 (.t 2)),
 i1g 21 19 true (.load 1 false (.t 20)),
 i1g 22 19 true (.fieldAddr 1 (.t 3)),
 i1g 23 19 true (.load 1 false (.t 22)),
 i1g 24 19 true (.bin .lss (.t 21) (.t 23)),
 mvg 25 24 19 true,
 i1g 26 25 false (.fieldAddr 1 (.t 2)),
 i1g 27 25 false (.load 1 false (.t 26)),
 i1g 28 25 false (.fieldAddr 1 (.t 3)),
 i1g 29 25 false (.load 1 false (.t 28)),
 i1g 30 25 false (.bin .eql (.t 27) (.t 29)),
 mvg 31 30 25 false,
 i1g 32 31 true (.fieldAddr 2 (.t 2)),
 i1g 33 31 true (.load 1 false (.t 32)),
 i1g 34 31 true (.fieldAddr 2 (.t 3)),
 i1g 35 31 true (.load 1 false (.t 34)),
 i1g 36 31 true (.bin .lss (.t 33) (.t 35)),
 i1g 37 25 false (.pick (.t 31) (.t 36) (.c (.bool false))),
 i1g 38 19 true (.pick (.t 25) (.c (.bool true)) (.t 37)),
 i1g 39 13 false (.pick (.t 19) (.t 38) (.c (.bool false))),
 i1 40 (.pick (.t 13) (.c (.bool true)) (.t 39)),
 mv 7 40] [2, 3, 7])
 (.cond (.t 7) (.seq (.reg none [i1 4 (.mov false (.c (.int .i64 (-1))))] [4])
 .ret)
 (.seq (.reg none [i1 42 (.fieldAddr 0 (.t 2)),
 i1 43 (.load 1 false (.t 42)),
 i1 44 (.fieldAddr 0 (.t 3)),
 i1 45 (.load 1 false (.t 44)),
 i1 46 (.bin .neq (.t 43) (.t 45)),
 mv 47 46,
 i1g 48 47 false (.fieldAddr 1 (.t 2)),
 i1g 49 47 false (.load 1 false (.t 48)),
 i1g 50 47 false (.fieldAddr 1 (.t 3)),
 i1g 51 47 false (.load 1 false (.t 50)),
 i1g 52 47 false (.bin .neq (.t 49) (.t 51)),
 i1 53 (.pick (.t 47) (.c (.bool true)) (.t 52)),
 mv 54 53,
 i1g 55 54 false (.fieldAddr 2 (.t 2)),
 i1g 56 54 false (.load 1 false (.t 55)),
 i1g 57 54 false (.fieldAddr 2 (.t 3)),
 i1g 58 54 false (.load 1 false (.t 57)),
 i1g 59 54 false (.bin .neq (.t 56) (.t 58)),
 i1 60 (.pick (.t 54) (.c (.bool true)) (.t 59)),
 mv 41 60] [2, 3, 41])
 (.cond (.t 41) (.seq (.reg none [i1 4 (.mov false (.c (.int .i64 1)))] [4])
 .ret)
 .skip)))))
 (.join [(2, false), (3, false)] (.seq (.reg none [i1 5 (.mov false (.c (.int .i64 0)))] [2, 3, 5])
 (.block 1 (.loop [(2, false), (3, false), (5, false)] (.seq (.seq (.reg none [mv 61 5,
 i1 62 (.fieldAddr 3 (.t 2)),
 i1 63 (.load 1 false (.t 62)),
 i1 64 (.len 0 (.t 63)),
 i1 65 (.bin .lss (.t 61) (.t 64)),
 mv 66 65,
 mvg 67 5 66 true,
 i1g 68 66 true (.fieldAddr 3 (.t 3)),
 i1g 69 66 true (.load 1 false (.t 68)),
 i1g 70 66 true (.len 0 (.t 69)),
 i1g 71 66 true (.bin .lss (.t 67) (.t 70)),
 i1 72 (.pick (.t 66) (.t 71) (.c (.bool false)))] [2, 3, 5, 72])
 (.cond (.t 72) .skip
 (.exit 1)))
 (.seq (.block 2 (.seq (.reg (some 12) [i1 75 (.fieldAddr 3 (.t 2)),
 i1 76 (.load 1 false (.t 75)),
 mv 77 5,
 i1 78 (.indexAddr [.int .i64 0, .int .i64 0, .str [], .sl false 4 0 []] (.t 76) (.t 77)),
 i1 79 (.load 4 true (.t 78)),
 i1 80 (.fieldAddr 3 (.t 3)),
 i1 81 (.load 1 false (.t 80)),
 mv 82 5,
 i1 83 (.indexAddr [.int .i64 0, .int .i64 0, .str [], .sl false 4 0 []] (.t 81) (.t 82)),
 i1 84 (.load 4 true (.t 83)),
 i1 85 (.call 75 [(.t 79), (.t 84)]),
 mv 6 85] [2, 3, 5, 6])
 (.seq (.reg none [mv 86 6,
 i1 87 (.bin .neq (.t 86) (.c (.int .i64 0)))] [2, 3, 5, 6, 87])
 (.cond (.t 87) (.seq (.reg none [mv 88 6,
 mv 4 88] [4])
 .ret)
 .skip))))
 (.reg none [mv 73 5,
 i1 74 (.bin .add (.t 73) (.c (.int .i64 1))),
 mv 5 74] [2, 3, 5]))))))
 (.seq (.seq (.reg none [i1 89 (.fieldAddr 3 (.t 2)),
 i1 90 (.load 1 false (.t 89)),
 i1 91 (.len 0 (.t 90)),
 i1 92 (.fieldAddr 3 (.t 3)),
 i1 93 (.load 1 false (.t 92)),
 i1 94 (.len 0 (.t 93)),
 i1 95 (.bin .lss (.t 91) (.t 94))] [2, 3, 95])
 (.cond (.t 95) (.seq (.reg none [i1 4 (.mov false (.c (.int .i64 (-1))))] [4])
 .ret)
 .skip))
 (.seq (.seq (.reg none [i1 96 (.fieldAddr 3 (.t 2)),
 i1 97 (.load 1 false (.t 96)),
 i1 98 (.len 0 (.t 97)),
 i1 99 (.fieldAddr 3 (.t 3)),
 i1 100 (.load 1 false (.t 99)),
 i1 101 (.len 0 (.t 100)),
 i1 102 (.bin .gtr (.t 98) (.t 101))] [102])
 (.cond (.t 102) (.seq (.reg none [i1 4 (.mov false (.c (.int .i64 1)))] [4])
 .ret)
 .skip))
 (.seq (.reg none [i1 4 (.mov false (.c (.int .i64 0)))] [4])
 .ret))))))
def res_ref11_Compare : List IRes := [⟨4, true, none⟩]
theorem is_ref11_Compare : fnIs Go.Proofs.Tryz.prog 75 103 res_ref11_Compare ir_ref11_Compare = true := by kernel_rfl
theorem ref11_Compare_fn {fuel : Nat} : ∀ {a_0 : api_Value} {b_1 : api_Value} {s : Store} {Q : List AV → Store → Prop} , ok (ref11_Compare fuel a_0 b_1) (fun r => Q [.int .i64 r] s) → FN Go.Proofs.Tryz.prog 75 [.agg [.int .i64 a_0.Kind, .int .i64 a_0.N, .str a_0.S.b, .sl false 4 a_0.L.length (flat a_0.L)], .agg [.int .i64 b_1.Kind, .int .i64 b_1.N, .str b_1.S.b, .sl false 4 b_1.L.length (flat b_1.L)]] s Q := by
  induction fuel with
  | zero => intros; rename_i h; rw [ref11_Compare] at h; exact absurd h (by rw [ok_none]; exact fun h => h)
  | succ fuel ih =>
  have ihfe : ∀ {a_0 : api_Value} {b_1 : api_Value} {s : Store} {r : Int} , ref11_Compare fuel a_0 b_1 = some r → FE Go.Proofs.Tryz.prog 75 [.agg [.int .i64 a_0.Kind, .int .i64 a_0.N, .str a_0.S.b, .sl false 4 a_0.L.length (flat a_0.L)], .agg [.int .i64 b_1.Kind, .int .i64 b_1.N, .str b_1.S.b, .sl false 4 b_1.L.length (flat b_1.L)]] s [.int .i64 r] s := fun  h => ih  ⟨_, h, rfl, rfl⟩
  intro a_0 b_1  s Q 
  intro h
  refine FN.of (draw_ok mix) is_ref11_Compare rfl (Nat.le_of_ble_eq_true rfl) ?_
  revert h
  rw [ir_ref11_Compare, res_ref11_Compare, ref11_Compare]
  repeat' (first
    | with_reducible exact tt_to
    | with_reducible refine and_to ?_ ?_
    | with_reducible refine im_to ?_
    | with_reducible refine call_to (fun _ (h : ref11_Compare fuel (ix a_0.L k4) (ix b_1.L k4) = some _) => ihfe h) (fun r8 => ?_)
    | with_reducible refine call_to_q (fun _ (h : ref11_Compare fuel (ix a_0.L k4) (ix b_1.L k4) = some _) => ihfe h) (fun _ => rfl) (fun r8 => ?_)
    | with_reducible refine call_to (fun _ (h : ref11_Compare fuel (ix a_0.L k4) (ix b_1.L k4) = some _) => (by refine FE_cast ?_ (ihfe h); simp -implicitDefEqProofs only [go_sem, start, startE, resVs, resV, resC, allV, retK, Nat.reduceBEq, Nat.reduceAdd, Nat.reduceMul, Nat.reduceLeDiff, Nat.reduceEqDiff, Nat.reduceBNe, Nat.ble_eq, UInt8.reduceToNat])) (fun r8 => ?_)
    | with_reducible refine call_to_q (fun _ (h : ref11_Compare fuel (ix a_0.L k4) (ix b_1.L k4) = some _) => (by refine FE_cast ?_ (ihfe h); simp -implicitDefEqProofs only [go_sem, start, startE, resVs, resV, resC, allV, retK, Nat.reduceBEq, Nat.reduceAdd, Nat.reduceMul, Nat.reduceLeDiff, Nat.reduceEqDiff, Nat.reduceBNe, Nat.ble_eq, UInt8.reduceToNat])) (fun _ => rfl) (fun r8 => ?_)
    | with_reducible refine call_to (fun _ (h : ref11_Compare fuel (ix a_0.L k4) (ix b_1.L k4) = some _) => (by have hx := ihfe (s := s) h; simp -implicitDefEqProofs only [go_sem, start, startE, resVs, resV, resC, allV, retK, Nat.reduceBEq, Nat.reduceAdd, Nat.reduceMul, Nat.reduceLeDiff, Nat.reduceEqDiff, Nat.reduceBNe, Nat.ble_eq, UInt8.reduceToNat] at hx; exact hx)) (fun r8 => ?_)
    | ((with_reducible refine iter_to (fun (k4 : Int) => ⟨[(2, .loc [.int .i64 a_0.Kind, .int .i64 a_0.N, .str a_0.S.b, .sl false 4 a_0.L.length (flat a_0.L)]), (3, .loc [.int .i64 b_1.Kind, .int .i64 b_1.N, .str b_1.S.b, .sl false 4 b_1.L.length (flat b_1.L)]), (5, .int .i64 k4)], [], s⟩) ?_ ?_); (first | exact rfl | simp -implicitDefEqProofs only [go_sem, start, startE, resVs, resV, resC, allV, retK, Nat.reduceBEq, Nat.reduceAdd, Nat.reduceMul, Nat.reduceLeDiff, Nat.reduceEqDiff, Nat.reduceBNe, Nat.ble_eq, UInt8.reduceToNat]); rintro J k4)
    | ((with_reducible refine join_toS (fun (_ : Unit) => ⟨[(2, .loc [.int .i64 a_0.Kind, .int .i64 a_0.N, .str a_0.S.b, .sl false 4 a_0.L.length (flat a_0.L)]), (3, .loc [.int .i64 b_1.Kind, .int .i64 b_1.N, .str b_1.S.b, .sl false 4 b_1.L.length (flat b_1.L)])], [], s⟩) (fun J => ?_) ?_); rotate_left; rintro _)
    | simp -implicitDefEqProofs only [go_sem, start, startE, resVs, resV, resC, allV, retK, Nat.reduceBEq, Nat.reduceAdd, Nat.reduceMul, Nat.reduceLeDiff, Nat.reduceEqDiff, Nat.reduceBNe, Nat.ble_eq, UInt8.reduceToNat])
theorem ref11_Compare_fe {fuel : Nat} {a_0 b_1} {s : Store} {r : Int}  (h : ref11_Compare fuel a_0 b_1 = some r) : FE Go.Proofs.Tryz.prog 75 [.agg [.int .i64 a_0.Kind, .int .i64 a_0.N, .str a_0.S.b, .sl false 4 a_0.L.length (flat a_0.L)], .agg [.int .i64 b_1.Kind, .int .i64 b_1.N, .str b_1.S.b, .sl false 4 b_1.L.length (flat b_1.L)]] s [.int .i64 r] s := ref11_Compare_fn  ⟨r, h, rfl, rfl⟩
/-- catchword/catchwordref11.Same -/
def ref11_Same (a_0 : api_Value) (b_1 : api_Value) : Option (Bool) :=
  bnd (ref11_Compare bigN a_0 b_1) fun r1 =>
  some (r1 == 0)
def ir_ref11_Same : IC :=
 (.seq (.reg none [i1 2 (.boxL 4 (.t 0)),
 i1 3 (.boxL 4 (.t 1)),
 i1 4 (.mov false (.c (.bool false)))] [2, 3])
 (.seq (.reg none [i1 5 (.load 4 true (.t 2)),
 i1 6 (.load 4 true (.t 3)),
 i1 7 (.call 75 [(.t 5), (.t 6)]),
 i1 8 (.bin .eql (.t 7) (.c (.int .i64 0))),
 mv 4 8] [4])
 .ret))
def res_ref11_Same : List IRes := [⟨4, true, none⟩]
theorem is_ref11_Same : fnIs Go.Proofs.Tryz.prog 51 9 res_ref11_Same ir_ref11_Same = true := by kernel_rfl
theorem ref11_Same_fn {a_0 b_1} {s : Store} {Q : List AV → Store → Prop}  : ok (ref11_Same a_0 b_1) (fun r => Q [.bool r] s) → FN Go.Proofs.Tryz.prog 51 [.agg [.int .i64 a_0.Kind, .int .i64 a_0.N, .str a_0.S.b, .sl false 4 a_0.L.length (flat a_0.L)], .agg [.int .i64 b_1.Kind, .int .i64 b_1.N, .str b_1.S.b, .sl false 4 b_1.L.length (flat b_1.L)]] s Q := by
  intro h
  refine FN.of (draw_ok mix) is_ref11_Same rfl (Nat.le_of_ble_eq_true rfl) ?_
  revert h
  rw [ir_ref11_Same, res_ref11_Same, ref11_Same]
  repeat' (first
    | with_reducible exact tt_to
    | with_reducible refine and_to ?_ ?_
    | with_reducible refine im_to ?_
    | with_reducible refine call_to (fun _ (h : ref11_Compare bigN a_0 b_1 = some _) => ref11_Compare_fe h) (fun r1 => ?_)
    | with_reducible refine call_to_q (fun _ (h : ref11_Compare bigN a_0 b_1 = some _) => ref11_Compare_fe h) (fun _ => rfl) (fun r1 => ?_)
    | with_reducible refine call_to (fun _ (h : ref11_Compare bigN a_0 b_1 = some _) => (by refine FE_cast ?_ (ref11_Compare_fe h); simp -implicitDefEqProofs only [go_sem, start, startE, resVs, resV, resC, allV, retK, Nat.reduceBEq, Nat.reduceAdd, Nat.reduceMul, Nat.reduceLeDiff, Nat.reduceEqDiff, Nat.reduceBNe, Nat.ble_eq, UInt8.reduceToNat])) (fun r1 => ?_)
    | with_reducible refine call_to_q (fun _ (h : ref11_Compare bigN a_0 b_1 = some _) => (by refine FE_cast ?_ (ref11_Compare_fe h); simp -implicitDefEqProofs only [go_sem, start, startE, resVs, resV, resC, allV, retK, Nat.reduceBEq, Nat.reduceAdd, Nat.reduceMul, Nat.reduceLeDiff, Nat.reduceEqDiff, Nat.reduceBNe, Nat.ble_eq, UInt8.reduceToNat])) (fun _ => rfl) (fun r1 => ?_)
    | simp -implicitDefEqProofs only [go_sem, start, startE, resVs, resV, resC, allV, retK, Nat.reduceBEq, Nat.reduceAdd, Nat.reduceMul, Nat.reduceLeDiff, Nat.reduceEqDiff, Nat.reduceBNe, Nat.ble_eq, UInt8.reduceToNat])
theorem ref11_Same_fe {a_0 b_1} {s : Store} {r : Bool}  (h : ref11_Same a_0 b_1 = some r) : FE Go.Proofs.Tryz.prog 51 [.agg [.int .i64 a_0.Kind, .int .i64 a_0.N, .str a_0.S.b, .sl false 4 a_0.L.length (flat a_0.L)], .agg [.int .i64 b_1.Kind, .int .i64 b_1.N, .str b_1.S.b, .sl false 4 b_1.L.length (flat b_1.L)]] s [.bool r] s := ref11_Same_fn   ⟨r, h, rfl, rfl⟩
/-- catchword/catchwordref14.Same -/
def ref14_Same (a_0 : api_Object) (b_1 : api_Object) : Option (Bool) :=
  bnd (ref11_Same a_0.V b_1.V) fun r1 =>
  some ((r1 && ((a_0.Stream == b_1.Stream) != false)) && (a_0.Data.b == b_1.Data.b))
def ir_ref14_Same : IC :=
 (.seq (.reg none [i1 2 (.boxL 6 (.t 0)),
 i1 3 (.boxL 6 (.t 1)),
 i1 4 (.mov false (.c (.bool false)))] [2, 3])
 (.seq (.reg none [i1 5 (.fieldAddr 0 (.t 2)),
 i1 6 (.load 4 true (.t 5)),
 i1 7 (.fieldAddr 0 (.t 3)),
 i1 8 (.load 4 true (.t 7)),
 i1 9 (.call 51 [(.t 6), (.t 8)]),
 mv 10 9,
 i1g 11 10 true (.fieldAddr 4 (.t 2)),
 i1g 12 10 true (.load 1 false (.t 11)),
 i1g 13 10 true (.fieldAddr 4 (.t 3)),
 i1g 14 10 true (.load 1 false (.t 13)),
 i1g 15 10 true (.eqB false (.t 12) (.t 14)),
 i1 16 (.pick (.t 10) (.t 15) (.c (.bool false))),
 mv 17 16,
 i1g 18 17 true (.fieldAddr 5 (.t 2)),
 i1g 19 17 true (.load 1 false (.t 18)),
 i1g 20 17 true (.fieldAddr 5 (.t 3)),
 i1g 21 17 true (.load 1 false (.t 20)),
 i1g 22 17 true (.bin .eql (.t 19) (.t 21)),
 i1 23 (.pick (.t 17) (.t 22) (.c (.bool false))),
 mv 4 23] [4])
 .ret))
def res_ref14_Same : List IRes := [⟨4, true, none⟩]
theorem is_ref14_Same : fnIs Go.Proofs.Tryz.prog 39 24 res_ref14_Same ir_ref14_Same = true := by kernel_rfl
theorem ref14_Same_fn {a_0 b_1} {s : Store} {Q : List AV → Store → Prop}  : ok (ref14_Same a_0 b_1) (fun r => Q [.bool r] s) → FN Go.Proofs.Tryz.prog 39 [.agg [.int .i64 a_0.V.Kind, .int .i64 a_0.V.N, .str a_0.V.S.b, .sl false 4 a_0.V.L.length (flat a_0.V.L), .bool a_0.Stream, .str a_0.Data.b], .agg [.int .i64 b_1.V.Kind, .int .i64 b_1.V.N, .str b_1.V.S.b, .sl false 4 b_1.V.L.length (flat b_1.V.L), .bool b_1.Stream, .str b_1.Data.b]] s Q := by
  intro h
  refine FN.of (draw_ok mix) is_ref14_Same rfl (Nat.le_of_ble_eq_true rfl) ?_
  revert h
  rw [ir_ref14_Same, res_ref14_Same, ref14_Same]
  repeat' (first
    | with_reducible exact tt_to
    | with_reducible refine and_to ?_ ?_
    | with_reducible refine im_to ?_
    | with_reducible refine call_to (fun _ (h : ref11_Same a_0.V b_1.V = some _) => ref11_Same_fe h) (fun r1 => ?_)
    | with_reducible refine call_to_q (fun _ (h : ref11_Same a_0.V b_1.V = some _) => ref11_Same_fe h) (fun _ => rfl) (fun r1 => ?_)
    | with_reducible refine call_to (fun _ (h : ref11_Same a_0.V b_1.V = some _) => (by refine FE_cast ?_ (ref11_Same_fe h); simp -implicitDefEqProofs only [go_sem, start, startE, resVs, resV, resC, allV, retK, Nat.reduceBEq, Nat.reduceAdd, Nat.reduceMul, Nat.reduceLeDiff, Nat.reduceEqDiff, Nat.reduceBNe, Nat.ble_eq, UInt8.reduceToNat])) (fun r1 => ?_)
    | with_reducible refine call_to_q (fun _ (h : ref11_Same a_0.V b_1.V = some _) => (by refine FE_cast ?_ (ref11_Same_fe h); simp -implicitDefEqProofs only [go_sem, start, startE, resVs, resV, resC, allV, retK, Nat.reduceBEq, Nat.reduceAdd, Nat.reduceMul, Nat.reduceLeDiff, Nat.reduceEqDiff, Nat.reduceBNe, Nat.ble_eq, UInt8.reduceToNat])) (fun _ => rfl) (fun r1 => ?_)
    | simp -implicitDefEqProofs only [go_sem, start, startE, resVs, resV, resC, allV, retK, Nat.reduceBEq, Nat.reduceAdd, Nat.reduceMul, Nat.reduceLeDiff, Nat.reduceEqDiff, Nat.reduceBNe, Nat.ble_eq, UInt8.reduceToNat])
theorem ref14_Same_fe {a_0 b_1} {s : Store} {r : Bool}  (h : ref14_Same a_0 b_1 = some r) : FE Go.Proofs.Tryz.prog 39 [.agg [.int .i64 a_0.V.Kind, .int .i64 a_0.V.N, .str a_0.V.S.b, .sl false 4 a_0.V.L.length (flat a_0.V.L), .bool a_0.Stream, .str a_0.Data.b], .agg [.int .i64 b_1.V.Kind, .int .i64 b_1.V.N, .str b_1.V.S.b, .sl false 4 b_1.V.L.length (flat b_1.V.L), .bool b_1.Stream, .str b_1.Data.b]] s [.bool r] s := ref14_Same_fn   ⟨r, h, rfl, rfl⟩
/-- catchword/catchwordref19.Same -/
def ref19_Same (a_0 : (List api_Object)) (b_1 : (List api_Object)) : Option (Bool) :=
  if (a_0.length : Int) != (b_1.length : Int) then
    some false
  else
    jnS (
      bndS (
        iter (fun (k2 : Int) =>
          if decide (k2 < (a_0.length : Int)) then
            need (0 ≤ k2 ∧ k2 < a_0.length) <|
            need (0 ≤ k2 ∧ k2 < b_1.length) <|
            bnd (ref14_Same (ix a_0 k2) (ix b_1 k2)) fun r4 =>
            if !r4 then
              some (.inr (.inr false))
            else
              some (.inl (w64 (k2 + 1)))
          else
            some (.inr (.inl ()))) 0) (fun (_ : Unit) =>
        some (.inl ()))
      (fun (t3 : Bool) => some (.inr t3))) (fun (_ : Unit) =>
      some true)
    (fun (t1 : Bool) => some t1)
def ir_ref19_Same : IC :=
 (.seq (.reg none [i1 4 (.mov false (.c (.bool false)))] [0, 1])
 (.seq (.seq (.reg none [mv 6 0,
 i1 7 (.len 0 (.t 6)),
 mv 8 1,
 i1 9 (.len 0 (.t 8)),
 i1 10 (.bin .neq (.t 7) (.t 9))] [0, 1, 10])
 (.cond (.t 10) (.seq (.reg none [i1 4 (.mov false (.c (.bool false)))] [4])
 .ret)
 .skip))
 (.join [] (.seq (.reg none [i1 5 (.mov false (.c (.int .i64 0)))] [0, 1, 5])
 (.block 0 (.loop [(0, true), (1, true), (5, false)] (.seq (.seq (.reg none [mv 11 5,
 mv 12 0,
 i1 13 (.len 0 (.t 12)),
 i1 14 (.bin .lss (.t 11) (.t 13))] [0, 1, 5, 14])
 (.cond (.t 14) .skip
 (.exit 0)))
 (.seq (.block 1 (.seq (.reg (some 10) [mv 17 0,
 mv 18 5,
 i1 19 (.indexAddr [.int .i64 0, .int .i64 0, .str [], .sl false 4 0 [], .bool false, .str []] (.t 17) (.t 18)),
 i1 20 (.load 6 true (.t 19)),
 mv 21 1,
 mv 22 5,
 i1 23 (.indexAddr [.int .i64 0, .int .i64 0, .str [], .sl false 4 0 [], .bool false, .str []] (.t 21) (.t 22)),
 i1 24 (.load 6 true (.t 23)),
 i1 25 (.call 39 [(.t 20), (.t 24)]),
 i1 26 (.un .not (.t 25))] [0, 1, 5, 26])
 (.cond (.t 26) (.seq (.reg none [i1 4 (.mov false (.c (.bool false)))] [4])
 .ret)
 .skip)))
 (.reg none [mv 15 5,
 i1 16 (.bin .add (.t 15) (.c (.int .i64 1))),
 mv 5 16] [0, 1, 5]))))))
 (.seq (.reg none [i1 4 (.mov false (.c (.bool true)))] [4])
 .ret))))
def res_ref19_Same : List IRes := [⟨4, true, none⟩]
theorem is_ref19_Same : fnIs Go.Proofs.Tryz.prog 15 27 res_ref19_Same ir_ref19_Same = true := by kernel_rfl
theorem ref19_Same_fn {a_0 b_1} {s : Store} {Q : List AV → Store → Prop}  : ok (ref19_Same a_0 b_1) (fun r => Q [.bool r] s) → FN Go.Proofs.Tryz.prog 15 [.sl false 6 a_0.length (flat a_0), .sl false 6 b_1.length (flat b_1)] s Q := by
  intro h
  refine FN.of (draw_ok mix) is_ref19_Same rfl (Nat.le_of_ble_eq_true rfl) ?_
  revert h
  rw [ir_ref19_Same, res_ref19_Same, ref19_Same]
  repeat' (first
    | with_reducible exact tt_to
    | with_reducible refine and_to ?_ ?_
    | with_reducible refine im_to ?_
    | with_reducible refine call_to (fun _ (h : ref14_Same (ix a_0 k2) (ix b_1 k2) = some _) => ref14_Same_fe h) (fun r4 => ?_)
    | with_reducible refine call_to_q (fun _ (h : ref14_Same (ix a_0 k2) (ix b_1 k2) = some _) => ref14_Same_fe h) (fun _ => rfl) (fun r4 => ?_)
    | with_reducible refine call_to (fun _ (h : ref14_Same (ix a_0 k2) (ix b_1 k2) = some _) => (by refine FE_cast ?_ (ref14_Same_fe h); simp -implicitDefEqProofs only [go_sem, start, startE, resVs, resV, resC, allV, retK, Nat.reduceBEq, Nat.reduceAdd, Nat.reduceMul, Nat.reduceLeDiff, Nat.reduceEqDiff, Nat.reduceBNe, Nat.ble_eq, UInt8.reduceToNat])) (fun r4 => ?_)
    | with_reducible refine call_to_q (fun _ (h : ref14_Same (ix a_0 k2) (ix b_1 k2) = some _) => (by refine FE_cast ?_ (ref14_Same_fe h); simp -implicitDefEqProofs only [go_sem, start, startE, resVs, resV, resC, allV, retK, Nat.reduceBEq, Nat.reduceAdd, Nat.reduceMul, Nat.reduceLeDiff, Nat.reduceEqDiff, Nat.reduceBNe, Nat.ble_eq, UInt8.reduceToNat])) (fun _ => rfl) (fun r4 => ?_)
    | ((with_reducible refine iter_to (fun (k2 : Int) => ⟨[(0, .sl false 6 a_0.length (flat a_0)), (1, .sl false 6 b_1.length (flat b_1)), (5, .int .i64 k2)], [], s⟩) ?_ ?_); (first | exact rfl | simp -implicitDefEqProofs only [go_sem, start, startE, resVs, resV, resC, allV, retK, Nat.reduceBEq, Nat.reduceAdd, Nat.reduceMul, Nat.reduceLeDiff, Nat.reduceEqDiff, Nat.reduceBNe, Nat.ble_eq, UInt8.reduceToNat]); rintro J k2)
    | ((with_reducible refine join_toS (fun (_ : Unit) => ⟨[], [], s⟩) (fun J => ?_) ?_); rotate_left; rintro _)
    | simp -implicitDefEqProofs only [go_sem, start, startE, resVs, resV, resC, allV, retK, Nat.reduceBEq, Nat.reduceAdd, Nat.reduceMul, Nat.reduceLeDiff, Nat.reduceEqDiff, Nat.reduceBNe, Nat.ble_eq, UInt8.reduceToNat])
theorem ref19_Same_fe {a_0 b_1} {s : Store} {r : Bool}  (h : ref19_Same a_0 b_1 = some r) : FE Go.Proofs.Tryz.prog 15 [.sl false 6 a_0.length (flat a_0), .sl false 6 b_1.length (flat b_1)] s [.bool r] s := ref19_Same_fn   ⟨r, h, rfl, rfl⟩
/-- catchword/catchwordlaw21.ReachRows -/
def law21_ReachRows (d_0 : api_Doc) (l_1 : ref20_Leaf) : Option (Bool) :=
  bnd (ref19_Few d_0.Objects 40) fun r1 =>
  bnd (whenB (!!r1) false (ref21_Few l_1)) fun r2 =>
  if !r1 || !r2 then
    bnd (law21_works) fun r3 =>
    some r3
  else
    bnd (file_Of d_0) fun r4 =>
    bnd (law21_to l_1) fun r5 =>
    bnd (reach_Closure r4 r5) fun r6 =>
    bnd (ref19_Of d_0) fun r7 =>
    bnd (ref21_Closure r7 l_1) fun r8 =>
    bnd (ref21_Same r6.1 r8.1) fun r9 =>
    bnd (whenB r9 false (ref19_Same r6.2.1 r8.2.1)) fun r10 =>
    bnd (whenB (((r9 && r10) && (r6.2.2.1 == 0)) && (r6.2.2.2 == 0)) false (law21_works)) fun r11 =>
    some ((((r9 && r10) && (r6.2.2.1 == 0)) && (r6.2.2.2 == 0)) && r11)
def ir_law21_ReachRows : IC :=
 (.seq (.reg none [i1 2 (.boxL 2 (.t 0)),
 i1 3 (.boxL 6 (.t 1)),
 i1 4 (.mov false (.c (.bool false)))] [2, 3])
 (.seq (.seq (.reg (some 7) [i1 13 (.fieldAddr 0 (.t 2)),
 i1 14 (.load 1 false (.t 13)),
 i1 15 (.call 6 [(.t 14), (.c (.int .i64 40))]),
 i1 16 (.un .not (.t 15)),
 mv 17 16,
 i1g 18 17 false (.load 6 true (.t 3)),
 i1g 19 17 false (.call 7 [(.t 18)]),
 i1g 20 17 false (.un .not (.t 19)),
 i1 21 (.pick (.t 17) (.c (.bool true)) (.t 20))] [2, 3, 21])
 (.cond (.t 21) (.seq (.reg none [i1 22 (.call 8 []),
 mv 4 22] [4])
 .ret)
 .skip))
 (.seq (.regB [] [(0, 0, i1 24 (.load 2 true (.t 2))),
 (1, 2, i1 26 (.load 6 true (.t 3))),
 (2, 1, i1 25 (.call 10 [(.t 24)])),
 (2, 3, i1 27 (.call 11 [(.t 26)])),
 (2, 4, i1 28 (.call 9 [(.t 25), (.t 27)])),
 (0, 5, i1 23 (.movT (.t 28))),
 (0, 6, i1 29 (.extract (.t 23) 0)),
 (0, 7, i1 30 (.extract (.t 23) 1)),
 (0, 8, i1 31 (.extract (.t 23) 2)),
 (0, 9, i1 32 (.extract (.t 23) 3)),
 (0, 10, mt 5 29),
 (0, 11, mt 6 30),
 (0, 12, mv 7 31),
 (0, 13, mv 8 32)] [2, 3, 5, 6, 7, 8])
 (.seq (.reg (some 13) [i1 34 (.load 2 true (.t 2)),
 i1 35 (.call 13 [(.t 34)]),
 i1 36 (.load 6 true (.t 3)),
 i1 37 (.call 12 [(.t 35), (.t 36)]),
 i1 33 (.movT (.t 37)),
 i1 38 (.extract (.t 33) 0),
 i1 39 (.extract (.t 33) 1),
 i1 40 (.extract (.t 33) 2),
 i1 41 (.extract (.t 33) 3),
 mv 9 38,
 mv 10 39,
 mv 11 40,
 mv 12 41] [5, 6, 7, 8, 9, 10])
 (.seq (.reg (some 18) [mv 42 5,
 mv 43 9,
 i1 44 (.call 14 [(.t 42), (.t 43)]),
 mv 45 44,
 mvg 46 6 45 true,
 mvg 47 10 45 true,
 i1g 48 45 true (.call 15 [(.t 46), (.t 47)]),
 i1 49 (.pick (.t 45) (.t 48) (.c (.bool false))),
 mv 50 49,
 mvg 51 7 50 true,
 i1g 52 50 true (.bin .eql (.t 51) (.c (.int .i64 0))),
 i1 53 (.pick (.t 50) (.t 52) (.c (.bool false))),
 mv 54 53,
 mvg 55 8 54 true,
 i1g 56 54 true (.bin .eql (.t 55) (.c (.int .i64 0))),
 i1 57 (.pick (.t 54) (.t 56) (.c (.bool false))),
 mv 58 57,
 i1g 59 58 true (.call 8 []),
 i1 60 (.pick (.t 58) (.t 59) (.c (.bool false))),
 mv 4 60] [4])
 .ret)))))
def res_law21_ReachRows : List IRes := [⟨4, true, none⟩]
theorem is_law21_ReachRows : fnIs Go.Proofs.Tryz.prog 3 61 res_law21_ReachRows ir_law21_ReachRows = true := by kernel_rfl
theorem law21_ReachRows_fn {d_0 l_1} {s : Store} {Q : List AV → Store → Prop}  : ok (law21_ReachRows d_0 l_1) (fun r => Q [.bool r] s) → FN Go.Proofs.Tryz.prog 3 [.agg [.sl false 6 d_0.Objects.length (flat d_0.Objects), .int .i64 d_0.Root], .agg [.int .i64 l_1.Page, .sl false 1 l_1.Path.length (flat l_1.Path), .int .i64 l_1.Given.Kind, .int .i64 l_1.Given.N, .str l_1.Given.S.b, .sl false 4 l_1.Given.L.length (flat l_1.Given.L)]] s Q := by
  intro h
  refine FN.forget ?_
  refine FN.of (draw_ok mix) is_law21_ReachRows rfl (Nat.le_of_ble_eq_true rfl) ?_
  revert h
  rw [ir_law21_ReachRows, res_law21_ReachRows, law21_ReachRows]
  repeat' (first
    | with_reducible exact tt_to
    | ((with_reducible refine b_to ?_ ?_); exact rfl)
    | ((with_reducible refine n_to ?_ ?_); exact rfl)
    | with_reducible refine and_to ?_ ?_
    | with_reducible refine im_to ?_
    | with_reducible refine call_to (fun _ (h : ref19_Few d_0.Objects 40 = some _) => ref19_Few_fe h) (fun r1 => ?_)
    | with_reducible refine call_to_q (fun _ (h : ref19_Few d_0.Objects 40 = some _) => ref19_Few_fe h) (fun _ => rfl) (fun r1 => ?_)
    | with_reducible refine call_to (fun _ (h : ref19_Few d_0.Objects 40 = some _) => (by refine FE_cast ?_ (ref19_Few_fe h); simp -implicitDefEqProofs only [go_sem, start, startE, resVs, resV, resC, allV, retK, Nat.reduceBEq, Nat.reduceAdd, Nat.reduceMul, Nat.reduceLeDiff, Nat.reduceEqDiff, Nat.reduceBNe, Nat.ble_eq, UInt8.reduceToNat])) (fun r1 => ?_)
    | with_reducible refine call_to_q (fun _ (h : ref19_Few d_0.Objects 40 = some _) => (by refine FE_cast ?_ (ref19_Few_fe h); simp -implicitDefEqProofs only [go_sem, start, startE, resVs, resV, resC, allV, retK, Nat.reduceBEq, Nat.reduceAdd, Nat.reduceMul, Nat.reduceLeDiff, Nat.reduceEqDiff, Nat.reduceBNe, Nat.ble_eq, UInt8.reduceToNat])) (fun _ => rfl) (fun r1 => ?_)
    | with_reducible refine call_to_g rfl (fun _ (h : ref21_Few l_1 = some _) => ref21_Few_fe h) (fun _ => rfl) (fun r2 => ?_)
    | with_reducible refine call_to_g rfl (fun _ (h : ref21_Few l_1 = some _) => (by refine FE_cast ?_ (ref21_Few_fe h); simp -implicitDefEqProofs only [go_sem, start, startE, resVs, resV, resC, allV, retK, Nat.reduceBEq, Nat.reduceAdd, Nat.reduceMul, Nat.reduceLeDiff, Nat.reduceEqDiff, Nat.reduceBNe, Nat.ble_eq, UInt8.reduceToNat])) (fun _ => rfl) (fun r2 => ?_)
    | ((fail_if_success (have _x := r3)); with_reducible refine call_to (fun _ (h : law21_works = some _) => law21_works_fe h) (fun r3 => ?_))
    | ((fail_if_success (have _x := r3)); with_reducible refine call_to_q (fun _ (h : law21_works = some _) => law21_works_fe h) (fun _ => rfl) (fun r3 => ?_))
    | ((fail_if_success (have _x := r3)); with_reducible refine call_to (fun _ (h : law21_works = some _) => (by refine FE_cast ?_ (law21_works_fe h); simp -implicitDefEqProofs only [go_sem, start, startE, resVs, resV, resC, allV, retK, Nat.reduceBEq, Nat.reduceAdd, Nat.reduceMul, Nat.reduceLeDiff, Nat.reduceEqDiff, Nat.reduceBNe, Nat.ble_eq, UInt8.reduceToNat])) (fun r3 => ?_))
    | ((fail_if_success (have _x := r3)); with_reducible refine call_to_q (fun _ (h : law21_works = some _) => (by refine FE_cast ?_ (law21_works_fe h); simp -implicitDefEqProofs only [go_sem, start, startE, resVs, resV, resC, allV, retK, Nat.reduceBEq, Nat.reduceAdd, Nat.reduceMul, Nat.reduceLeDiff, Nat.reduceEqDiff, Nat.reduceBNe, Nat.ble_eq, UInt8.reduceToNat])) (fun _ => rfl) (fun r3 => ?_))
    | with_reducible refine fun hh => file_Of_fn (ok_mono (show ok (file_Of d_0) _ from hh) fun r4 => ?_)
    | with_reducible refine fun hh => FN_cast (by simp -implicitDefEqProofs only [go_sem, start, startE, resVs, resV, resC, allV, retK, Nat.reduceBEq, Nat.reduceAdd, Nat.reduceMul, Nat.reduceLeDiff, Nat.reduceEqDiff, Nat.reduceBNe, Nat.ble_eq, UInt8.reduceToNat]) (file_Of_fn (ok_mono (show ok (file_Of d_0) _ from hh) fun r4 => ?_))
    | with_reducible refine call_to (fun _ (h : law21_to l_1 = some _) => law21_to_fe h) (fun r5 => ?_)
    | with_reducible refine call_to_q (fun _ (h : law21_to l_1 = some _) => law21_to_fe h) (fun _ => rfl) (fun r5 => ?_)
    | with_reducible refine call_to (fun _ (h : law21_to l_1 = some _) => (by refine FE_cast ?_ (law21_to_fe h); simp -implicitDefEqProofs only [go_sem, start, startE, resVs, resV, resC, allV, retK, Nat.reduceBEq, Nat.reduceAdd, Nat.reduceMul, Nat.reduceLeDiff, Nat.reduceEqDiff, Nat.reduceBNe, Nat.ble_eq, UInt8.reduceToNat])) (fun r5 => ?_)
    | with_reducible refine call_to_q (fun _ (h : law21_to l_1 = some _) => (by refine FE_cast ?_ (law21_to_fe h); simp -implicitDefEqProofs only [go_sem, start, startE, resVs, resV, resC, allV, retK, Nat.reduceBEq, Nat.reduceAdd, Nat.reduceMul, Nat.reduceLeDiff, Nat.reduceEqDiff, Nat.reduceBNe, Nat.ble_eq, UInt8.reduceToNat])) (fun _ => rfl) (fun r5 => ?_)
    | with_reducible refine call_to (fun _ (h : reach_Closure r4 r5 = some _) => reach_Closure_fe (B0 := N2) (B0_get_ := N1) (by simp -implicitDefEqProofs only [go_sem, start, startE, resVs, resV, resC, allV, retK, Nat.reduceBEq, Nat.reduceAdd, Nat.reduceMul, Nat.reduceLeDiff, Nat.reduceEqDiff, Nat.reduceBNe, Nat.ble_eq, UInt8.reduceToNat, set_ne nN2N1, set_ne nN2N1.symm, set_comm nN2N1.symm] <;> simp only [encM_nil]) (by simp -implicitDefEqProofs only [go_sem, start, startE, resVs, resV, resC, allV, retK, Nat.reduceBEq, Nat.reduceAdd, Nat.reduceMul, Nat.reduceLeDiff, Nat.reduceEqDiff, Nat.reduceBNe, Nat.ble_eq, UInt8.reduceToNat, set_ne nN2N1, set_ne nN2N1.symm, set_comm nN2N1.symm] <;> simp only [encM_nil]) nN2N1 h) (fun r6 => ?_)
    | with_reducible refine call_to_q (fun _ (h : reach_Closure r4 r5 = some _) => reach_Closure_fe (B0 := N2) (B0_get_ := N1) (by simp -implicitDefEqProofs only [go_sem, start, startE, resVs, resV, resC, allV, retK, Nat.reduceBEq, Nat.reduceAdd, Nat.reduceMul, Nat.reduceLeDiff, Nat.reduceEqDiff, Nat.reduceBNe, Nat.ble_eq, UInt8.reduceToNat, set_ne nN2N1, set_ne nN2N1.symm, set_comm nN2N1.symm] <;> simp only [encM_nil]) (by simp -implicitDefEqProofs only [go_sem, start, startE, resVs, resV, resC, allV, retK, Nat.reduceBEq, Nat.reduceAdd, Nat.reduceMul, Nat.reduceLeDiff, Nat.reduceEqDiff, Nat.reduceBNe, Nat.ble_eq, UInt8.reduceToNat, set_ne nN2N1, set_ne nN2N1.symm, set_comm nN2N1.symm] <;> simp only [encM_nil]) nN2N1 h) (fun _ => rfl) (fun r6 => ?_)
    | with_reducible refine call_to (fun _ (h : ref19_Of d_0 = some _) => ref19_Of_fe h) (fun r7 => ?_)
    | with_reducible refine call_to_q (fun _ (h : ref19_Of d_0 = some _) => ref19_Of_fe h) (fun _ => rfl) (fun r7 => ?_)
    | with_reducible refine call_to (fun _ (h : ref19_Of d_0 = some _) => (by refine FE_cast ?_ (ref19_Of_fe h); simp -implicitDefEqProofs only [go_sem, start, startE, resVs, resV, resC, allV, retK, Nat.reduceBEq, Nat.reduceAdd, Nat.reduceMul, Nat.reduceLeDiff, Nat.reduceEqDiff, Nat.reduceBNe, Nat.ble_eq, UInt8.reduceToNat])) (fun r7 => ?_)
    | with_reducible refine call_to_q (fun _ (h : ref19_Of d_0 = some _) => (by refine FE_cast ?_ (ref19_Of_fe h); simp -implicitDefEqProofs only [go_sem, start, startE, resVs, resV, resC, allV, retK, Nat.reduceBEq, Nat.reduceAdd, Nat.reduceMul, Nat.reduceLeDiff, Nat.reduceEqDiff, Nat.reduceBNe, Nat.ble_eq, UInt8.reduceToNat])) (fun _ => rfl) (fun r7 => ?_)
    | with_reducible refine call_to (fun _ (h : ref21_Closure r7 l_1 = some _) => ref21_Closure_fe h) (fun r8 => ?_)
    | with_reducible refine call_to_q (fun _ (h : ref21_Closure r7 l_1 = some _) => ref21_Closure_fe h) (fun _ => rfl) (fun r8 => ?_)
    | with_reducible refine call_to (fun _ (h : ref21_Closure r7 l_1 = some _) => (by refine FE_cast ?_ (ref21_Closure_fe h); simp -implicitDefEqProofs only [go_sem, start, startE, resVs, resV, resC, allV, retK, Nat.reduceBEq, Nat.reduceAdd, Nat.reduceMul, Nat.reduceLeDiff, Nat.reduceEqDiff, Nat.reduceBNe, Nat.ble_eq, UInt8.reduceToNat])) (fun r8 => ?_)
    | with_reducible refine call_to_q (fun _ (h : ref21_Closure r7 l_1 = some _) => (by refine FE_cast ?_ (ref21_Closure_fe h); simp -implicitDefEqProofs only [go_sem, start, startE, resVs, resV, resC, allV, retK, Nat.reduceBEq, Nat.reduceAdd, Nat.reduceMul, Nat.reduceLeDiff, Nat.reduceEqDiff, Nat.reduceBNe, Nat.ble_eq, UInt8.reduceToNat])) (fun _ => rfl) (fun r8 => ?_)
    | with_reducible refine call_to (fun _ (h : ref21_Same r6.1 r8.1 = some _) => ref21_Same_fe h) (fun r9 => ?_)
    | with_reducible refine call_to_q (fun _ (h : ref21_Same r6.1 r8.1 = some _) => ref21_Same_fe h) (fun _ => rfl) (fun r9 => ?_)
    | with_reducible refine call_to (fun _ (h : ref21_Same r6.1 r8.1 = some _) => (by refine FE_cast ?_ (ref21_Same_fe h); simp -implicitDefEqProofs only [go_sem, start, startE, resVs, resV, resC, allV, retK, Nat.reduceBEq, Nat.reduceAdd, Nat.reduceMul, Nat.reduceLeDiff, Nat.reduceEqDiff, Nat.reduceBNe, Nat.ble_eq, UInt8.reduceToNat])) (fun r9 => ?_)
    | with_reducible refine call_to_q (fun _ (h : ref21_Same r6.1 r8.1 = some _) => (by refine FE_cast ?_ (ref21_Same_fe h); simp -implicitDefEqProofs only [go_sem, start, startE, resVs, resV, resC, allV, retK, Nat.reduceBEq, Nat.reduceAdd, Nat.reduceMul, Nat.reduceLeDiff, Nat.reduceEqDiff, Nat.reduceBNe, Nat.ble_eq, UInt8.reduceToNat])) (fun _ => rfl) (fun r9 => ?_)
    | with_reducible refine call_to_g rfl (fun _ (h : ref19_Same r6.2.1 r8.2.1 = some _) => ref19_Same_fe h) (fun _ => rfl) (fun r10 => ?_)
    | with_reducible refine call_to_g rfl (fun _ (h : ref19_Same r6.2.1 r8.2.1 = some _) => (by refine FE_cast ?_ (ref19_Same_fe h); simp -implicitDefEqProofs only [go_sem, start, startE, resVs, resV, resC, allV, retK, Nat.reduceBEq, Nat.reduceAdd, Nat.reduceMul, Nat.reduceLeDiff, Nat.reduceEqDiff, Nat.reduceBNe, Nat.ble_eq, UInt8.reduceToNat])) (fun _ => rfl) (fun r10 => ?_)
    | ((fail_if_success (have _x := r11)); with_reducible refine call_to_g rfl (fun _ (h : law21_works = some _) => law21_works_fe h) (fun _ => rfl) (fun r11 => ?_))
    | ((fail_if_success (have _x := r11)); with_reducible refine call_to_g rfl (fun _ (h : law21_works = some _) => (by refine FE_cast ?_ (law21_works_fe h); simp -implicitDefEqProofs only [go_sem, start, startE, resVs, resV, resC, allV, retK, Nat.reduceBEq, Nat.reduceAdd, Nat.reduceMul, Nat.reduceLeDiff, Nat.reduceEqDiff, Nat.reduceBNe, Nat.ble_eq, UInt8.reduceToNat])) (fun _ => rfl) (fun r11 => ?_))
    | ((fail_if_success (have _x := sN1)); with_reducible intro hh N1 hN1; (try simp only [set_none] at hN1); have sN1 := hN1; revert hh)
    | (have _x := sN1; clear _x; (fail_if_success (have _x := sN2)); with_reducible intro hh N2 hN2; (try simp only [set_none] at hN2); obtain ⟨nN2N1, sN2⟩ := hN2; revert hh)
    | with_reducible exact fun hh => ⟨_, SubS.set (SubS.set (SubS.refl _) (by simp [Store.set, sN1])) (by simp [Store.set, sN2]), hh⟩
    | with_reducible exact fun hh => ⟨_, SubS.set (SubS.refl _) (by simp [Store.set, sN1]), hh⟩
    | with_reducible exact fun hh => ⟨_, SubS.refl _, hh⟩
    | simp -implicitDefEqProofs only [go_sem, start, startE, resVs, resV, resC, allV, retK, Nat.reduceBEq, Nat.reduceAdd, Nat.reduceMul, Nat.reduceLeDiff, Nat.reduceEqDiff, Nat.reduceBNe, Nat.ble_eq, UInt8.reduceToNat, set_ne nN2N1, set_ne nN2N1.symm, set_comm nN2N1.symm]
    | simp -implicitDefEqProofs only [go_sem, start, startE, resVs, resV, resC, allV, retK, Nat.reduceBEq, Nat.reduceAdd, Nat.reduceMul, Nat.reduceLeDiff, Nat.reduceEqDiff, Nat.reduceBNe, Nat.ble_eq, UInt8.reduceToNat]
    | simp -implicitDefEqProofs only [go_sem, start, startE, resVs, resV, resC, allV, retK, Nat.reduceBEq, Nat.reduceAdd, Nat.reduceMul, Nat.reduceLeDiff, Nat.reduceEqDiff, Nat.reduceBNe, Nat.ble_eq, UInt8.reduceToNat])
theorem law21_ReachRows_fe {d_0 l_1} {s : Store} {r : Bool}  (h : law21_ReachRows d_0 l_1 = some r) : FE Go.Proofs.Tryz.prog 3 [.agg [.sl false 6 d_0.Objects.length (flat d_0.Objects), .int .i64 d_0.Root], .agg [.int .i64 l_1.Page, .sl false 1 l_1.Path.length (flat l_1.Path), .int .i64 l_1.Given.Kind, .int .i64 l_1.Given.N, .str l_1.Given.S.b, .sl false 4 l_1.Given.L.length (flat l_1.Given.L)]] s [.bool r] s := law21_ReachRows_fn   ⟨r, h, rfl, rfl⟩
end Go.AB
end

section
namespace Go.AB
open Go

/-- A search for a name ends, within the dictionary. -/
theorem value_find_some (v : api_Value) (key : Str) (h : (v.L.length : Int) ≤ 4611686018427387904) : ∃ r, value_find v key = some r ∧ -1 ≤ r ∧ r < v.L.length := by
  by_cases hk : (v.Kind != 7) = true
  · refine ⟨-1, ?_, by omega, by omega⟩
    unfold value_find; rw [if_pos hk]
  · have hit : ∃ o : Unit ⊕ Int, iter (fun (i2 : Int) =>
          if decide (i2 < (v.L.length : Int)) then
            need (0 ≤ i2 ∧ i2 < v.L.length) <|
            need ((((ix v.L i2).Kind) == 5) = true → 0 ≤ i2 ∧ i2 < v.L.length) <|
            if (((ix v.L i2).Kind) == 5) && (((ix v.L i2).S).b == key.b) then
              some (.inr (.inr i2))
            else
              some (.inl (w64 (i2 + 2)))
          else
            some (.inr (.inl ()))) 0 = some o ∧ (∀ r, o = .inr r → 0 ≤ r ∧ r < v.L.length) := by
      refine iter_inv (fun i => 0 ≤ i) (fun i => ((v.L.length : Int) - i).toNat) _ (Int.le_refl 0) (by omega) fun i hi => ?_
      by_cases hl : i < (v.L.length : Int)
      · rw [if_pos (by simpa using hl), need_pos ⟨hi, hl⟩, need_pos (fun _ => ⟨hi, hl⟩)]
        split
        · refine ⟨_, rfl, ?_⟩
          rintro r e; injection e with e; subst e; exact ⟨hi, hl⟩
        · refine ⟨_, rfl, ?_⟩
          show 0 ≤ w64 (i + 2) ∧ ((v.L.length : Int) - w64 (i + 2)).toNat < ((v.L.length : Int) - i).toNat
          rw [w64_id (by omega) (by omega)]
          exact ⟨by omega, by omega⟩
      · rw [if_neg (by simpa using hl)]
        exact ⟨_, rfl, fun r e => by cases e⟩
    obtain ⟨o, h1, h2⟩ := hit
    unfold value_find
    rw [if_neg hk, h1]
    cases o with
    | inl u => exact ⟨-1, rfl, by omega, by omega⟩
    | inr r => exact ⟨r, rfl, by have := h2 r rfl; omega, by have := h2 r rfl; omega⟩

theorem ref11_Find_eq (v : api_Value) (key : Str) : ref11_Find v key = value_find v key := by
  unfold ref11_Find value_find
  by_cases hk : (v.Kind == 7) = true
  · have hk' : (v.Kind != 7) = false := by rw [bne, hk]; rfl
    simp only [hk, hk', Bool.true_and, Bool.false_eq_true, if_false]
  · have hk2 : (v.Kind == 7) = false := by simpa using hk
    have hk' : (v.Kind != 7) = true := by rw [bne, hk2]; rfl
    rw [iter_eq (o := .inl ()) (fun _ => True) (fun _ => 0) trivial (by decide) fun i _ => .inr (by simp only [hk2, Bool.false_and, Bool.false_eq_true, if_false])]
    simp only [hk', if_true]
    rfl

/-- A value of so many parts at most. -/
def W : Nat → api_Value → Prop
  | 0, _ => False
  | n + 1, v => v.L.length ≤ n ∧ ∀ x ∈ v.L, W n x
theorem W_mono : ∀ (n m : Nat) (v : api_Value), n ≤ m → W n v → W m v
  | 0, _, _, _, h => h.elim
  | n + 1, 0, _, hm, _ => by omega
  | n + 1, m + 1, v, hm, h => ⟨by have := h.1; omega, fun x hx => W_mono n m x (by omega) (h.2 x hx)⟩

/-- The parts of a value, so deep. -/
def cnt : Nat → api_Value → Nat
  | 0, _ => 0
  | n + 1, v => 1 + (v.L.map (cnt n)).sum
theorem cnt_W : ∀ (n m : Nat) (v : api_Value), n ≤ m → W n v → cnt m v = cnt n v
  | 0, _, _, _, h => h.elim
  | n + 1, 0, _, hm, _ => by omega
  | n + 1, m + 1, v, hm, h => by
    show 1 + (v.L.map (cnt m)).sum = 1 + (v.L.map (cnt n)).sum
    rw [List.map_congr_left fun x hx => cnt_W n m x (by omega) (h.2 x hx)]
theorem few (fuel : Nat) : ∀ (v : api_Value) (left : Int), 0 ≤ left → left < fuel → left ≤ 4611686018427387904 → ∃ r, ref11_Few fuel v left = some r ∧ -1 ≤ r ∧ r < left ∧ (0 ≤ r → W left.toNat v ∧ (cnt left.toNat v : Int) ≤ left - r) := by
  induction fuel with
  | zero => intro v left h0 h1; omega
  | succ fuel ih =>
    intro v left h0 h1 h2
    rw [ref11_Few]
    have hit : ∃ o : Int, iter (fun ((left2, k3) : Int × Int) =>
        if (decide (k3 < (v.L.length : Int))) && (decide (left2 ≥ 0)) then
          need (0 ≤ k3 ∧ k3 < v.L.length) <|
          bnd (ref11_Few fuel (ix v.L k3) left2) fun r5 =>
          some (.inl (r5, w64 (k3 + 1)))
        else
          some (.inr left2)) (w64 (left - 1), 0) = some o ∧ (-1 ≤ o ∧ o < left ∧ (0 ≤ o → W left.toNat v ∧ (cnt left.toNat v : Int) ≤ left - o)) := by
      rw [w64_id (by omega) (by omega)]
      refine iter_inv (fun s => 0 ≤ s.2 ∧ -1 ≤ s.1 ∧ s.2 + s.1 ≤ left - 1 ∧ s.2 ≤ (v.L.length : Int) ∧ (0 ≤ s.1 → (∀ j : Nat, (j : Int) < s.2 → W (left - 1).toNat (ix v.L (j : Int))) ∧ (((v.L.take s.2.toNat).map (cnt (left - 1).toNat)).sum : Int) ≤ left - 1 - s.1)) (fun s => (s.1 + 1).toNat) _ ?h (by show (left - 1 + 1).toNat < _; omega) ?s
      case h => exact ⟨Int.le_refl 0, by show -1 ≤ left - 1; omega, by show 0 + (left - 1) ≤ left - 1; omega, by show (0 : Int) ≤ _; omega, fun _ => ⟨fun j hj => by have : (j : Int) < 0 := hj; omega, by show (0 : Int) ≤ left - 1 - (left - 1); omega⟩⟩
      case s =>
        intro s hs
        obtain ⟨l2, k⟩ := s
        obtain ⟨i1, i2, i3, i4, i5⟩ := hs
        simp only at i1 i2 i3 i4 i5
        by_cases hc : k < (v.L.length : Int) ∧ 0 ≤ l2
        · have e : ((decide (k < (v.L.length : Int))) && (decide (l2 ≥ 0))) = true := by simp; exact ⟨hc.1, hc.2⟩
          obtain ⟨r, h3, h4, h5, h6⟩ := ih (ix v.L k) l2 hc.2 (by omega) (by omega)
          simp only [e, if_true]
          rw [need_pos ⟨i1, hc.1⟩, h3, bnd_some]
          refine ⟨_, rfl, ?_⟩
          rw [w64_id (by omega) (by omega)]
          refine ⟨⟨by show 0 ≤ k + 1; omega, h4, by show k + 1 + r ≤ left - 1; omega, by show k + 1 ≤ _; omega, fun hr => ?_⟩, by show (r + 1).toNat < (l2 + 1).toNat; omega⟩
          have hr' : 0 ≤ r := hr
          obtain ⟨i6, i7⟩ := i5 hc.2
          obtain ⟨h7, h8⟩ := h6 hr'
          refine ⟨fun j hj => ?_, ?_⟩
          · have hj' : (j : Int) < k + 1 := hj
            by_cases hjk : (j : Int) < k
            · exact i6 j hjk
            · rw [show (j : Int) = k by omega]
              exact W_mono _ _ _ (by omega) h7
          · have hk : k.toNat < v.L.length := by omega
            show (((v.L.take (k + 1).toNat).map (cnt (left - 1).toNat)).sum : Int) ≤ left - 1 - r
            rw [show (k + 1).toNat = k.toNat + 1 by omega, List.take_succ_eq_append_getElem hk, List.map_append, List.sum_append]
            have e2 : ix v.L k = v.L[k.toNat] := ix_at hk
            rw [e2] at h7 h8
            have e3 := cnt_W l2.toNat (left - 1).toNat _ (by omega) h7
            simp only [List.map_cons, List.map_nil, List.sum_cons, List.sum_nil, Nat.add_zero]
            rw [e3]
            push_cast
            omega
        · have e : ((decide (k < (v.L.length : Int))) && (decide (l2 ≥ 0))) = false := by
            cases h : ((decide (k < (v.L.length : Int))) && (decide (l2 ≥ 0))) with
            | false => rfl
            | true => simp at h; exact (hc ⟨h.1, h.2⟩).elim
          simp only [e, Bool.false_eq_true, if_false]
          refine ⟨_, rfl, i2, by show l2 < left; omega, fun hl => ?_⟩
          have hl' : 0 ≤ l2 := hl
          have hk : k = (v.L.length : Int) := by
            by_cases h : k < (v.L.length : Int)
            · exact (hc ⟨h, hl'⟩).elim
            · omega
          obtain ⟨m, hm⟩ : ∃ m, left.toNat = m + 1 := ⟨left.toNat - 1, by omega⟩
          rw [hm]
          obtain ⟨i6, i7⟩ := i5 hl'
          have em : (left - 1).toNat = m := by omega
          rw [em] at i6 i7
          refine ⟨⟨by omega, fun x hx => ?_⟩, ?_⟩
          · obtain ⟨j, hj, rfl⟩ := List.getElem_of_mem hx
            have := i6 j (by omega)
            rw [ix_nat hj] at this
            exact this
          · rw [hk, show ((v.L.length : Int)).toNat = v.L.length from rfl, List.take_length] at i7
            show ((1 + (v.L.map (cnt m)).sum : Nat) : Int) ≤ left - l2
            push_cast
            omega
    obtain ⟨o, h3, h4⟩ := hit
    rw [h3]
    exact ⟨o, rfl, h4⟩


end Go.AB
end

section
namespace Go.AB
open Go

/-- A number more, unless it is there. -/
def add1 (l : List Int) (n : Int) : List Int := if l.contains n then l else l ++ [n]
theorem add1_len (l : List Int) (n : Int) : (add1 l n).length ≤ l.length + 1 := by
  unfold add1; split <;> simp
theorem add1_nodup {l : List Int} (h : l.Nodup) (n : Int) : (add1 l n).Nodup := by
  unfold add1
  split
  · exact h
  · rename_i hc
    rw [List.nodup_append]
    refine ⟨h, List.nodup_cons.2 ⟨by simp, List.nodup_nil⟩, fun a ha b hb e => ?_⟩
    rw [List.mem_singleton] at hb
    subst hb; subst e
    exact hc (by simpa using ha)
/-- The numbers that a value refers to, each once, as they are met. -/
def refsL : Nat → api_Value → List Int → List Int
  | 0, _, l => l
  | n + 1, v, l =>
    if v.Kind == 8 then add1 l v.N
    else if (v.Kind == 6) || (v.Kind == 7) then v.L.foldl (fun l x => refsL n x l) l else l
theorem foldl_len {f : List Int → api_Value → List Int} {g : api_Value → Nat} (h : ∀ l x, (f l x).length ≤ l.length + g x) : ∀ (L : List api_Value) (l : List Int), (L.foldl f l).length ≤ l.length + (L.map g).sum
  | [], l => by simp
  | x :: L, l => by
    have h1 := foldl_len h L (f l x)
    have h2 := h l x
    simp only [List.foldl_cons, List.map_cons, List.sum_cons]
    omega
theorem refsL_len : ∀ (n : Nat) (v : api_Value) (l : List Int), (refsL n v l).length ≤ l.length + cnt n v
  | 0, v, l => by simp [refsL]
  | n + 1, v, l => by
    have h0 := add1_len l v.N
    have h1 := foldl_len (f := fun l x => refsL n x l) (g := cnt n) (fun l x => refsL_len n x l) v.L l
    have e : cnt (n + 1) v = 1 + (v.L.map (cnt n)).sum := rfl
    unfold refsL
    split
    · omega
    · split <;> omega
theorem foldl_nodup {f : List Int → api_Value → List Int} (h : ∀ l x, l.Nodup → (f l x).Nodup) : ∀ (L : List api_Value) (l : List Int), l.Nodup → (L.foldl f l).Nodup
  | [], l, hl => hl
  | x :: L, l, hl => foldl_nodup h L _ (h l x hl)
theorem refsL_nodup : ∀ (n : Nat) (v : api_Value) (l : List Int), l.Nodup → (refsL n v l).Nodup
  | 0, v, l, h => h
  | n + 1, v, l, h => by
    unfold refsL
    split
    · exact add1_nodup h _
    · split
      · exact foldl_nodup (fun l x => refsL_nodup n x l) _ _ h
      · exact h
theorem sum_take (L : List api_Value) (g : api_Value → Nat) (k : Nat) (hk : k < L.length) : ((L.take k).map g).sum + g L[k] ≤ (L.map g).sum := by
  have e : L.map g = (L.take k).map g ++ (L.drop k).map g := by rw [← List.map_append, List.take_append_drop]
  rw [e, List.sum_append, List.drop_eq_getElem_cons hk, List.map_cons, List.sum_cons]
  omega

theorem has_eq (l : List Int) (n : Int) (hb : l.length < 4611686018427387904) : ref11_has l n = some (l.contains n) := by
  unfold ref11_has
  have step : ∀ k (hk : k < l.length), ix l (k : Int) = l[k] := fun k hk => ix_at (i := (k : Int)) hk
  cases h : l.findIdx? (· == n) with
  | none =>
    rw [List.findIdx?_eq_none_iff] at h
    have hc : l.contains n = false := by
      rw [List.contains_eq_mem]
      exact decide_eq_false fun hm => by have := h n hm; simp at this
    rw [hc]
    refine jnS_of (z := .inl ()) (bndS_of (z := .inl ()) (iter_cnt l.length hb (fun k hk => ?_) ?_) rfl) rfl
    · refine if_of (decide_eq_true (by omega)) (need_of ⟨by omega, by omega⟩ ?_)
      rw [step k hk, if_neg (by rw [h _ (List.getElem_mem hk)]; simp)]
    · exact if_not (by simp) rfl
  | some i =>
    rw [List.findIdx?_eq_some_iff_getElem] at h
    obtain ⟨hi, h1, h2⟩ := h
    have hc : l.contains n = true := by
      rw [List.contains_eq_mem]
      exact decide_eq_true (by rw [← eq_of_beq h1]; exact List.getElem_mem hi)
    rw [hc]
    refine jnS_of (z := .inr true) (bndS_of (z := .inr true) (iter_cnt i (by omega) (fun k hk => ?_) ?_) rfl) rfl
    · refine if_of (decide_eq_true (by omega)) (need_of ⟨by omega, by omega⟩ ?_)
      rw [step k (by omega), if_neg (h2 k hk)]
    · refine if_of (decide_eq_true (by omega)) (need_of ⟨by omega, by omega⟩ ?_)
      rw [step i hi, if_pos h1]

theorem more_eq : ∀ (n : Nat) (v : api_Value) (fuel : Nat) (l : List Int), W n v → n ≤ fuel → (l.length + cnt n v) * 8 ≤ room → ref11_more fuel l v = some (refsL n v l)
  | 0, _, _, _, h, _, _ => h.elim
  | n + 1, _, 0, _, _, h, _ => by omega
  | n + 1, v, fuel + 1, l, h, hf, hr => by
    have hr' := hr
    have ec : cnt (n + 1) v = 1 + (v.L.map (cnt n)).sum := rfl
    unfold room at hr'
    have hlen : v.L.length < 4611686018427387904 := by
      have : ∀ L : List api_Value, (∀ x ∈ L, W n x) → L.length ≤ (L.map (cnt n)).sum := fun L hL => by
        induction L with
        | nil => simp
        | cons x L ih =>
          have h1 := ih fun y hy => hL y (List.mem_cons_of_mem _ hy)
          have h2 : 1 ≤ cnt n x := by
            have := hL x (List.mem_cons_self ..)
            cases n with
            | zero => exact this.elim
            | succ n => show 1 ≤ 1 + _; omega
          simp only [List.length_cons, List.map_cons, List.sum_cons]; omega
      have := this v.L h.2
      omega
    rw [ref11_more]
    by_cases h8 : (v.Kind == 8) = true
    · have h6 : (v.Kind == 6 || v.Kind == 7) = false := by
        rw [eq_of_beq h8]; rfl
      rw [h8, whenB_t, has_eq l v.N (by omega), bnd_some]
      have er : refsL (n + 1) v l = add1 l v.N := by unfold refsL; rw [if_pos h8]
      rw [er]
      unfold add1
      cases hc : l.contains v.N with
      | false => exact if_of rfl (need_of (by simp; omega) (need_of (by simp; omega) rfl))
      | true =>
        refine if_not (by simp) (jn_of (a := l) ?_ rfl)
        exact iter_acc 0 (fun _ => l) rfl (by decide) (fun k hk => by omega) (bnd_of (a := false) (by unfold ref11_holds; rw [h6]) rfl)
    · have h8' : (v.Kind == 8) = false := by simpa using h8
      rw [h8', whenB_f, bnd_some]
      refine if_not (by simp) ?_
      cases hh : (v.Kind == 6) || (v.Kind == 7) with
      | false =>
        have er : refsL (n + 1) v l = l := by unfold refsL; rw [if_neg h8, hh]; rfl
        rw [er]
        exact jn_of (a := l) (iter_acc 0 (fun _ => l) rfl (by decide) (fun k hk => by omega) (bnd_of (a := false) (by unfold ref11_holds; rw [hh]) rfl)) rfl
      | true =>
        have er : refsL (n + 1) v l = v.L.foldl (fun l x => refsL n x l) l := by rw [refsL, if_neg h8, hh, if_pos rfl]
        rw [er]
        refine jn_of (a := v.L.foldl (fun l x => refsL n x l) l) ?_ rfl
        refine iter_acc v.L.length (fun k => (v.L.take k).foldl (fun l x => refsL n x l) l) rfl hlen (fun k hk => ?_) ?_
        · refine bnd_of (a := true) (by unfold ref11_holds; rw [hh]) (if_of (by simp; omega) (need_of ⟨by omega, by omega⟩ ?_))
          have e2 : ix v.L (k : Int) = v.L[k] := ix_at (i := (k : Int)) hk
          rw [e2]
          have s1 := sum_take v.L (cnt n) k hk
          have s2 := foldl_len (f := fun l x => refsL n x l) (g := cnt n) (fun l x => refsL_len n x l) (v.L.take k) l
          refine bnd_of (more_eq n v.L[k] fuel _ (h.2 _ (List.getElem_mem hk)) (by omega) (by unfold room; omega)) ?_
          show some _ = some _
          rw [List.take_succ_eq_append_getElem hk, List.foldl_append]
          rfl
        · refine bnd_of (a := true) (by unfold ref11_holds; rw [hh]) (if_not (by simp) ?_)
          rw [List.take_length]

theorem len_cnt {n : Nat} : ∀ (L : List api_Value), (∀ x ∈ L, W n x) → L.length ≤ (L.map (cnt n)).sum
  | [], _ => by simp
  | x :: L, hL => by
    have h1 := len_cnt L fun y hy => hL y (List.mem_cons_of_mem _ hy)
    have h2 : 1 ≤ cnt n x := by
      have := hL x (List.mem_cons_self ..)
      cases n with
      | zero => exact this.elim
      | succ n => show 1 ≤ 1 + _; omega
    simp only [List.length_cons, List.map_cons, List.sum_cons]; omega
theorem mfind_put (m : List (Int × Bool)) (a k : Int) : mfind (mput m a true) k = if a = k then some true else mfind m k := by
  induction m with
  | nil =>
    show (bif k == a then some true else none) = _
    by_cases e : a = k
    · subst e; simp
    · rw [if_neg e]
      have : (k == a) = false := by rw [beq_eq_false_iff_ne]; exact fun h => e h.symm
      rw [this]; rfl
  | cons x m ih =>
    obtain ⟨c, b⟩ := x
    show mfind (bif a == c then (a, true) :: m else (c, b) :: mput m a true) k = _
    by_cases e : a = c
    · subst e
      rw [show (a == a) = true by simp, cond_true]
      show (bif k == a then some true else mfind m k) = if a = k then some true else (bif k == a then some b else mfind m k)
      by_cases e2 : a = k
      · subst e2; simp
      · rw [if_neg e2]
        have : (k == a) = false := by rw [beq_eq_false_iff_ne]; exact fun h => e2 h.symm
        rw [this]; rfl
    · have e1 : (a == c) = false := by rw [beq_eq_false_iff_ne]; exact e
      rw [e1, cond_false]
      show (bif k == c then some b else mfind (mput m a true) k) = if a = k then some true else (bif k == c then some b else mfind m k)
      rw [ih]
      by_cases e2 : a = k
      · subst e2; rw [e1]; simp
      · rw [if_neg e2, if_neg e2]
/-- What the map says of the numbers met. -/
def Seen (m : List (Int × Bool)) (l : List Int) : Prop := ∀ k, mget false m k = l.contains k
theorem Seen.add {m : List (Int × Bool)} {l : List Int} (h : Seen m l) (n : Int) : Seen (mput m n true) (l ++ [n]) := fun k => by
  have := h k
  unfold mget at this ⊢
  rw [mfind_put, List.contains_eq_mem]
  rw [List.contains_eq_mem] at this
  by_cases e : n = k
  · subst e; simp
  · rw [if_neg e, this]
    have e' : ¬ k = n := fun h => e h.symm
    simp [e']
theorem refs1_eq (v : api_Value) (m : List (Int × Bool)) (l : List Int) (hs : Seen m l) (hr : (l.length + 1) * 8 ≤ room) :
    ∃ m', value_Refs_1 v m l = some (true, m', if v.Kind == 8 then add1 l v.N else l) ∧ Seen m' (if v.Kind == 8 then add1 l v.N else l) := by
  unfold value_Refs_1
  by_cases h8 : (v.Kind == 8) = true
  · rw [if_pos h8]
    unfold add1
    rw [hs v.N]
    cases hc : l.contains v.N with
    | true =>
      refine ⟨m, ?_, by simpa using hs⟩
      exact jn_of (a := (m, l)) (if_not (by simp) rfl) rfl
    | false =>
      refine ⟨mput m v.N true, ?_, by simpa using hs.add v.N⟩
      refine jn_of (a := (mput m v.N true, l ++ [v.N])) (if_of (by simp [h8]) (need_of (by simpa using hr) rfl)) rfl
  · rw [if_neg h8]
    have h8' : (v.Kind == 8) = false := by simpa using h8
    refine ⟨m, jn_of (a := (m, l)) (if_not (by simp [h8']) rfl) rfl, hs⟩
theorem walk_eq : ∀ (n : Nat) (v : api_Value) (fuel : Nat) (m : List (Int × Bool)) (l : List Int), W n v → n ≤ fuel → Seen m l → (l.length + cnt n v) * 8 ≤ room → ∃ m', value_walk fuel v m l = some (true, m', refsL n v l) ∧ Seen m' (refsL n v l)
  | 0, _, _, _, _, h, _, _, _ => h.elim
  | n + 1, _, 0, _, _, _, h, _, _ => by omega
  | n + 1, v, fuel + 1, m, l, h, hf, hs, hr => by
    have hr' := hr
    have ec : cnt (n + 1) v = 1 + (v.L.map (cnt n)).sum := rfl
    unfold room at hr'
    obtain ⟨m1, h1, h2⟩ := refs1_eq v m l hs (by unfold room; omega)
    rw [value_walk, h1, bnd_some]
    by_cases h8 : (v.Kind == 8) = true
    · rw [if_pos h8] at h2 ⊢
      have er : refsL (n + 1) v l = add1 l v.N := by rw [refsL, if_pos h8]
      rw [er]
      refine ⟨m1, ?_, h2⟩
      have e8 := eq_of_beq h8
      exact if_not (by simp) (if_of (by rw [e8]; rfl) rfl)
    · rw [if_neg h8] at h2 ⊢
      cases hh : (v.Kind == 6) || (v.Kind == 7) with
      | false =>
        have er : refsL (n + 1) v l = l := by rw [refsL, if_neg h8, hh]; rfl
        rw [er]
        refine ⟨m1, ?_, h2⟩
        refine if_not (by simp) (if_of ?_ rfl)
        rw [Bool.or_eq_false_iff] at hh
        rw [bne, bne, hh.1, hh.2]; rfl
      | true =>
        have er : refsL (n + 1) v l = v.L.foldl (fun l x => refsL n x l) l := by rw [refsL, if_neg h8, hh, if_pos rfl]
        rw [er]
        have hlen := len_cnt v.L h.2
        have hit := iter_inv (body := fun ((t7, o8, o9) : Int × (List (Int × Bool)) × (List Int)) =>
              if decide (t7 < (v.L.length : Int)) then
                need (0 ≤ t7 ∧ t7 < v.L.length) <|
                bnd (value_walk fuel (ix v.L t7) o8 o9) fun r15 =>
                if !r15.1 then
                  some (.inr (.inr (false, r15.2.1, r15.2.2)))
                else
                  some (.inl (w64 (t7 + 1), r15.2.1, r15.2.2))
              else
                some (.inr (.inl (o8, o9)))) (s0 := (0, m1, l))
            (fun s => ∃ k : Nat, s.1 = (k : Int) ∧ k ≤ v.L.length ∧ s.2.2 = (v.L.take k).foldl (fun l x => refsL n x l) l ∧ Seen s.2.1 s.2.2)
            (fun s => ((v.L.length : Int) - s.1).toNat)
            (fun o => ∃ m', o = (.inl (m', v.L.foldl (fun l x => refsL n x l) l) : (List (Int × Bool) × List Int) ⊕ (Bool × List (Int × Bool) × List Int)) ∧ Seen m' (v.L.foldl (fun l x => refsL n x l) l))
            ⟨0, rfl, Nat.zero_le _, rfl, h2⟩ (by show ((v.L.length : Int) - 0).toNat < _; omega) (by
              rintro ⟨t, mm, ll⟩ ⟨k, e1, e2, e3, e4⟩
              simp only at e1 e3 e4
              subst e1; subst e3
              by_cases hk : k < v.L.length
              · have e5 : ix v.L (k : Int) = v.L[k] := ix_at (i := (k : Int)) hk
                have s1 := sum_take v.L (cnt n) k hk
                have s2 := foldl_len (f := fun l x => refsL n x l) (g := cnt n) (fun l x => refsL_len n x l) (v.L.take k) l
                obtain ⟨m', g1, g2⟩ := walk_eq n v.L[k] fuel mm _ (h.2 _ (List.getElem_mem hk)) (by omega) e4 (by unfold room; omega)
                refine ⟨_, if_of (decide_eq_true (by omega)) (need_of ⟨by omega, by omega⟩ (bnd_of (by rw [e5]; exact g1) (if_not (by simp) rfl))), ?_⟩
                have hw : w64 ((k : Int) + 1) = ((k + 1 : Nat) : Int) := by rw [w64_id (by omega) (by omega)]; omega
                refine ⟨⟨k + 1, hw, hk, ?_, g2⟩, ?_⟩
                · rw [List.take_succ_eq_append_getElem hk, List.foldl_append]; rfl
                · show ((v.L.length : Int) - w64 ((k : Int) + 1)).toNat < ((v.L.length : Int) - k).toNat
                  rw [hw]; omega
              · obtain rfl : k = v.L.length := by omega
                refine ⟨_, if_not (by simp) rfl, mm, ?_, ?_⟩
                · rw [List.take_length]
                · rw [List.take_length] at e4; exact e4)
        obtain ⟨o, i1, m', i2, i3⟩ := hit
        subst i2
        refine ⟨m', ?_, i3⟩
        refine if_not (by simp) (if_not ?_ (jnS_of (z := .inl (m', v.L.foldl (fun l x => refsL n x l) l)) (bndS_of i1 rfl) rfl))
        rw [bne, bne]
        rcases Bool.or_eq_true .. ▸ hh with h | h <;> rw [h] <;> simp
end Go.AB
end

section
namespace Go.AB
open Go

def Few3 (v : api_Value) : Prop := W 300 v ∧ cnt 300 v ≤ 300
def rs3 (v : api_Value) : List Int := refsL 300 v []
theorem rs3_len {v : api_Value} (h : Few3 v) : (rs3 v).length ≤ 300 := by
  have := refsL_len 300 v []
  have := h.2
  unfold rs3
  simp only [List.length_nil] at *
  omega
theorem refs_eq {v : api_Value} (h : Few3 v) : value_Refs v = some (rs3 v) := by
  obtain ⟨m', h1, _⟩ := walk_eq 300 v bigN [] [] h.1 (by decide) (fun k => rfl) (by have := h.2; unfold room; simp only [List.length_nil]; omega)
  exact bnd_of h1 rfl
theorem rrefs_eq {v : api_Value} (h : Few3 v) : ref11_Refs v = some (rs3 v) :=
  bnd_of (more_eq 300 v bigN [] h.1 (by decide) (by have := h.2; unfold room; simp only [List.length_nil]; omega)) rfl
theorem kept_len (l : List Int) : (kept l).length ≤ l.length := List.length_filter_le _ _
theorem next_eq {v : api_Value} (h : Few3 v) : reach_Next v = some (kept (rs3 v)) :=
  bnd_of (refs_eq h) (need_of (by have := rs3_len h; unfold room; omega) rfl)
theorem kept_succ {l : List Int} {k : Nat} (hk : k < l.length) : kept (l.take (k + 1)) = kept (l.take k) ++ (if gone l[k] then [] else [l[k]]) := by
  unfold kept
  rw [List.take_succ_eq_append_getElem hk, List.filter_append]
  cases hg : gone l[k] <;> simp [hg]
theorem rnext_eq {v : api_Value} (h : Few3 v) : ref21_Next v = some (kept (rs3 v)) := by
  have hl := rs3_len h
  refine bnd_of (rrefs_eq h) ?_
  generalize rs3 v = l at hl
  refine jn_of (a := kept l) ?_ rfl
  refine iter_acc l.length (fun k => kept (l.take k)) rfl (by omega) (fun k hk => ?_) ?_
  · have e : ix l (k : Int) = l[k] := ix_at (i := (k : Int)) hk
    have hkl := kept_len (l.take k)
    rw [List.length_take] at hkl
    refine if_of (decide_eq_true (by omega)) (jn_of (a := kept (l.take (k + 1))) (need_of ⟨by omega, by omega⟩ (need_of (fun _ => ⟨by omega, by omega⟩) ?_)) rfl)
    rw [kept_succ hk, e]
    have hg : ((decide (l[k] ≥ 1)) && (decide (l[k] ≤ 4096))) = !gone l[k] := by
      unfold gone
      rw [Bool.eq_iff_iff]
      simp
    rw [hg]
    cases gone l[k] with
    | true => exact if_not (by simp) (by simp)
    | false => exact if_of (by simp) (need_of ⟨by omega, by omega⟩ (need_of (by simp only [List.length_cons, List.length_nil]; unfold room; omega) rfl))
  · refine if_not (by simp) ?_
    rw [List.take_length]
theorem same_eq (a : List Int) (hb : a.length < 4611686018427387904) : ref21_Same a a = some true := by
  unfold ref21_Same
  refine if_not (by simp) (jnS_of (z := .inl ()) (bndS_of (z := .inl ()) (iter_cnt a.length hb (fun k hk => ?_) ?_) rfl) rfl)
  · exact if_of (decide_eq_true (by omega)) (need_of ⟨by omega, by omega⟩ (need_of ⟨by omega, by omega⟩ (if_not (by simp) rfl)))
  · exact if_not (by simp) rfl
theorem sum_drop (L : List api_Value) (g : api_Value → Nat) (i : Nat) : ((L.drop i).map g).sum ≤ (L.map g).sum := by
  have e : L.map g = (L.take i).map g ++ (L.drop i).map g := by rw [← List.map_append, List.take_append_drop]
  rw [e, List.sum_append]; omega
theorem drop_eq {v : api_Value} (h : Few3 v) (key : Str) : ∃ v', value_Drop v key = some v' ∧ ref11_Drop v key = some v' ∧ Few3 v' := by
  have hlen : v.L.length ≤ 299 := h.1.1
  obtain ⟨r, h1, h2, h3⟩ := value_find_some v key (by omega)
  by_cases h0 : r < 0
  · exact ⟨v, bnd_of h1 (if_of (decide_eq_true h0) rfl), bnd_of ((ref11_Find_eq v key).trans h1) (if_of (decide_eq_true h0) rfl), h⟩
  · obtain ⟨i, rfl⟩ : ∃ i : Nat, r = (i : Int) := ⟨r.toNat, by omega⟩
    have hi : i < v.L.length := by omega
    have hsum : ((v.L.take i ++ v.L.drop (min (i + 2) v.L.length)).map (cnt 299)).sum ≤ (v.L.map (cnt 299)).sum := by
      have e : v.L.map (cnt 299) = (v.L.take i).map (cnt 299) ++ (v.L.drop i).map (cnt 299) := by rw [← List.map_append, List.take_append_drop]
      have e2 : v.L.drop (min (i + 2) v.L.length) = (v.L.drop i).drop (min (i + 2) v.L.length - i) := by rw [List.drop_drop]; congr 1; omega
      have := sum_drop (v.L.drop i) (cnt 299) (min (i + 2) v.L.length - i)
      rw [e, List.map_append, List.sum_append, List.sum_append, e2]
      omega
    refine ⟨⟨v.Kind, v.N, v.S, v.L.take i ++ v.L.drop (min (i + 2) v.L.length)⟩, ?_, ?_, ?_, ?_⟩
    · exact bnd_of h1 (if_not (by simp) (need_of ⟨by omega, by omega, by unfold room; omega⟩ rfl))
    · have hw : w64 ((i : Int) + 2) = ((i + 2 : Nat) : Int) := by rw [w64_id (by omega) (by omega)]; omega
      have p0 : part v.L 0 (i : Int) = v.L.take i := by
        show (v.L.drop 0).take ((i : Int) - 0).toNat = _
        rw [Int.sub_zero]; rfl
      have hl0 : (v.L.take i).length ≤ 299 := by rw [List.length_take]; omega
      refine bnd_of ((ref11_Find_eq v key).trans h1) (if_not (by simp) (need_of ⟨by omega, by omega, by omega⟩ ?_))
      rw [p0, hw]
      refine need_of (by simp only [List.length_nil]; unfold room; omega) ?_
      refine jn_of (a := v.L.take i ++ v.L.drop (min (i + 2) v.L.length)) ?_ rfl
      by_cases h4 : i + 2 < v.L.length
      · have p1 : part v.L ((i + 2 : Nat) : Int) (v.L.length : Int) = v.L.drop (i + 2) := by
          show (v.L.drop (i + 2)).take (((v.L.length : Int) - ((i + 2 : Nat) : Int)).toNat) = _
          exact List.take_of_length_le (by rw [List.length_drop]; omega)
        rw [p1, Nat.min_eq_left (by omega)]
        have hl1 : (v.L.drop (i + 2)).length ≤ 299 := by rw [List.length_drop]; omega
        exact if_of (decide_eq_true (by omega)) (need_of ⟨by omega, by omega, by omega⟩ (need_of (by unfold room; omega) rfl))
      · rw [Nat.min_eq_right (by omega), List.drop_length, List.append_nil]
        exact if_not (by simp; omega) rfl
    · refine ⟨?_, fun x hx => ?_⟩
      · show (v.L.take i ++ v.L.drop (min (i + 2) v.L.length)).length ≤ 299
        rw [List.length_append, List.length_take, List.length_drop]; omega
      · rcases List.mem_append.1 hx with hx | hx
        · exact h.1.2 x (List.mem_of_mem_take hx)
        · exact h.1.2 x (List.mem_of_mem_drop hx)
    · have e : cnt 300 v = 1 + (v.L.map (cnt 299)).sum := rfl
      have h2 := h.2
      show 1 + ((v.L.take i ++ v.L.drop (min (i + 2) v.L.length)).map (cnt 299)).sum ≤ 300
      omega
end Go.AB
end

section
namespace Go.AB
open Go

theorem mfindI_put (m : List (Int × Int)) (a b k : Int) : mfind (mput m a b) k = if a = k then some b else mfind m k := by
  induction m with
  | nil =>
    show (bif k == a then some b else none) = _
    by_cases e : a = k
    · subst e; simp
    · rw [if_neg e]
      have : (k == a) = false := by rw [beq_eq_false_iff_ne]; exact fun h => e h.symm
      rw [this]; rfl
  | cons x m ih =>
    obtain ⟨c, d⟩ := x
    show mfind (bif a == c then (a, b) :: m else (c, d) :: mput m a b) k = _
    by_cases e : a = c
    · subst e
      rw [show (a == a) = true by simp, cond_true]
      show (bif k == a then some b else mfind m k) = if a = k then some b else (bif k == a then some d else mfind m k)
      by_cases e2 : a = k
      · subst e2; simp
      · rw [if_neg e2]
        have : (k == a) = false := by rw [beq_eq_false_iff_ne]; exact fun h => e2 h.symm
        rw [this]; rfl
    · have e1 : (a == c) = false := by rw [beq_eq_false_iff_ne]; exact e
      rw [e1, cond_false]
      show (bif k == c then some d else mfind (mput m a b) k) = if a = k then some b else (bif k == c then some d else mfind m k)
      rw [ih]
      by_cases e2 : a = k
      · subst e2; rw [e1]; simp
      · rw [if_neg e2, if_neg e2]
/-- What the row's map says of its list. -/
def InL (m : List (Int × Int)) (l : List Int) : Prop := ∀ k, mhas m k = l.contains k
theorem InL.add {m : List (Int × Int)} {l : List Int} (h : InL m l) (n b : Int) : InL (mput m n b) (l ++ [n]) := fun k => by
  have := h k
  unfold mhas at this ⊢
  rw [mfindI_put, List.contains_eq_mem]
  rw [List.contains_eq_mem] at this
  by_cases e : n = k
  · subst e; simp
  · rw [if_neg e, this]
    have e' : ¬ k = n := fun h => e h.symm
    simp [e']
theorem fold_len : ∀ (xs l : List Int), (xs.foldl add1 l).length ≤ l.length + xs.length
  | [], l => by simp
  | x :: xs, l => by
    have h1 := fold_len xs (add1 l x)
    have h2 := add1_len l x
    simp only [List.foldl_cons, List.length_cons]
    omega
theorem fold_new : ∀ (xs l : List Int), (l ++ xs).Nodup → xs.foldl add1 l = l ++ xs
  | [], l, _ => by simp
  | x :: xs, l, h => by
    have hx : l.contains x = false := by
      rw [List.contains_eq_mem]
      refine decide_eq_false fun hm => ?_
      rw [List.nodup_append] at h
      exact h.2.2 x hm x (List.mem_cons_self ..) rfl
    have e : add1 l x = l ++ [x] := by unfold add1; rw [hx]; rfl
    rw [List.foldl_cons, e, fold_new xs (l ++ [x]) (by rw [List.append_assoc]; exact h), List.append_assoc]
    rfl
theorem put_eq (m : List (Int × Int)) (l xs : List Int) (hs : InL m l) (hr : (l.length + xs.length + 1) * 8 ≤ room) : ∃ m', reach_row_put ⟨l, m⟩ xs = some ⟨xs.foldl add1 l, m'⟩ ∧ InL m' (xs.foldl add1 l) := by
  have hr' := hr
  unfold room at hr'
  have hit := iter_inv (body := fun ((t1, o2) : Int × reach_row) =>
    if decide (t1 < (xs.length : Int)) then
      jn (
        need (0 ≤ t1 ∧ t1 < xs.length) <|
        if !(mhas o2.in_ (ix xs t1)) then
          need ((o2.l_.length + [ix xs t1].length) * 8 ≤ room) <|
          some (reach_row.mk (o2.l_ ++ [ix xs t1]) (mput o2.in_ (ix xs t1) (o2.l_.length : Int)))
        else
          some o2) fun (o7 : reach_row) =>
      some (.inl (w64 (t1 + 1), o7))
    else
      some (.inr o2)) (s0 := (0, ⟨l, m⟩))
    (fun s => ∃ k : Nat, s.1 = (k : Int) ∧ k ≤ xs.length ∧ s.2.l_ = (xs.take k).foldl add1 l ∧ InL s.2.in_ s.2.l_)
    (fun s => ((xs.length : Int) - s.1).toNat)
    (fun o => ∃ m', o = (⟨xs.foldl add1 l, m'⟩ : reach_row) ∧ InL m' (xs.foldl add1 l))
    ⟨0, rfl, Nat.zero_le _, rfl, hs⟩ (by show ((xs.length : Int) - 0).toNat < _; omega) (by
      rintro ⟨t, ll, mm⟩ ⟨k, e1, e2, e3, e4⟩
      simp only at e1 e3 e4
      subst e1; subst e3
      by_cases hk : k < xs.length
      · have e5 : ix xs (k : Int) = xs[k] := ix_at (i := (k : Int)) hk
        have s2 := fold_len (xs.take k) l
        rw [List.length_take] at s2
        have hw : w64 ((k : Int) + 1) = ((k + 1 : Nat) : Int) := by rw [w64_id (by omega) (by omega)]; omega
        have hstep : (xs.take (k + 1)).foldl add1 l = add1 ((xs.take k).foldl add1 l) xs[k] := by
          rw [List.take_succ_eq_append_getElem hk, List.foldl_append]; rfl
        have hμ : ((xs.length : Int) - w64 ((k : Int) + 1)).toNat < ((xs.length : Int) - k).toNat := by rw [hw]; omega
        dsimp only
        rw [e5]
        generalize hA : (xs.take k).foldl add1 l = A at e4 s2 hstep
        cases hc : A.contains xs[k] with
        | true =>
          have ea : add1 A xs[k] = A := by unfold add1; rw [hc]; rfl
          refine ⟨.inl (w64 ((k : Int) + 1), ⟨A, mm⟩), if_of (decide_eq_true (by omega)) (jn_of (a := ⟨A, mm⟩) (need_of ⟨by omega, by omega⟩ (if_not (by rw [e4 xs[k], hc]; simp) rfl)) rfl), ?_, hμ⟩
          exact ⟨k + 1, hw, hk, by rw [hstep, ea], e4⟩
        | false =>
          have ea : add1 A xs[k] = A ++ [xs[k]] := by unfold add1; rw [hc]; rfl
          refine ⟨.inl (w64 ((k : Int) + 1), ⟨A ++ [xs[k]], mput mm xs[k] (A.length : Int)⟩), if_of (decide_eq_true (by omega)) (jn_of (a := ⟨A ++ [xs[k]], mput mm xs[k] (A.length : Int)⟩) (need_of ⟨by omega, by omega⟩ (if_of (by rw [e4 xs[k], hc]; rfl) (need_of (by simp only [List.length_cons, List.length_nil]; unfold room; omega) rfl))) rfl), ?_, hμ⟩
          exact ⟨k + 1, hw, hk, by rw [hstep, ea], e4.add _ _⟩
      · obtain rfl : k = xs.length := by omega
        refine ⟨_, if_not (by simp) rfl, mm, ?_, ?_⟩
        · rw [List.take_length]
        · rw [List.take_length] at e4; exact e4)
  obtain ⟨o, i1, m', i2, i3⟩ := hit
  subst i2
  exact ⟨m', i1, i3⟩
theorem on_eq (l xs : List Int) (hr : (l.length + xs.length + 1) * 8 ≤ room) : ref21_on l xs = some (xs.foldl add1 l) := by
  have hr' := hr
  unfold room at hr'
  unfold ref21_on
  refine need_of (by simp only [List.length_nil]; unfold room; omega) (jn_of (a := xs.foldl add1 l) ?_ rfl)
  refine iter_acc xs.length (fun k => (xs.take k).foldl add1 l) rfl (by omega) (fun k hk => ?_) ?_
  · have e5 : ix xs (k : Int) = xs[k] := ix_at (i := (k : Int)) hk
    have s2 := fold_len (xs.take k) l
    rw [List.length_take] at s2
    have hstep : (xs.take (k + 1)).foldl add1 l = add1 ((xs.take k).foldl add1 l) xs[k] := by
      rw [List.take_succ_eq_append_getElem hk, List.foldl_append]; rfl
    simp only [hstep, e5]
    generalize (xs.take k).foldl add1 l = A at s2
    have hh : ref21_has A xs[k] = some (A.contains xs[k]) := has_eq A xs[k] (by omega)
    refine if_of (decide_eq_true (by omega)) (jn_of (a := add1 A xs[k]) (need_of ⟨by omega, by omega⟩ (bnd_of hh ?_)) rfl)
    unfold add1
    cases hc : A.contains xs[k] with
    | true => exact if_not (by simp) rfl
    | false => exact if_of rfl (need_of ⟨by omega, by omega⟩ (need_of (by simp only [List.length_cons, List.length_nil]; unfold room; omega) rfl))
  · refine if_not (by simp) ?_
    rw [List.take_length]
theorem first_eq {v g : api_Value} (h : Few3 v) (hg : Few3 g) : ∃ l : List Int, reach_First v g = some l ∧ ref21_First v g = some l ∧ l.length ≤ 600 := by
  obtain ⟨v', d1, d2, d3⟩ := drop_eq h (Str.mk [80, 97, 114, 101, 110, 116])
  have l1 := kept_len (rs3 v')
  have l2 := kept_len (rs3 g)
  have l3 := rs3_len d3
  have l4 := rs3_len hg
  have hnd : (kept (rs3 v')).Nodup := (refsL_nodup 300 v' [] List.nodup_nil).filter _
  have e0 : (kept (rs3 v')).foldl add1 [] = kept (rs3 v') := fold_new _ [] (by simpa using hnd)
  obtain ⟨m1, p1, p2⟩ := put_eq [] [] (kept (rs3 v')) (fun k => rfl) (by unfold room; simp only [List.length_nil]; omega)
  rw [e0] at p1 p2
  obtain ⟨m2, p3, p4⟩ := put_eq m1 (kept (rs3 v')) (kept (rs3 g)) p2 (by unfold room; omega)
  have hl := fold_len (kept (rs3 g)) (kept (rs3 v'))
  refine ⟨(kept (rs3 g)).foldl add1 (kept (rs3 v')), ?_, ?_, by omega⟩
  · exact bnd_of d1 (bnd_of (next_eq d3) (bnd_of p1 (bnd_of (next_eq hg) (bnd_of p3 rfl))))
  · exact bnd_of d2 (bnd_of (rnext_eq d3) (bnd_of (rnext_eq hg) (bnd_of (on_eq _ _ (by unfold room; omega)) rfl)))
theorem kept_in' {l : List Int} {n : Int} (h : n ∈ kept l) : 1 ≤ n ∧ n ≤ 4096 := by
  unfold kept gone at h
  have := (List.mem_filter.1 h).2
  simp at this
  exact ⟨by omega, by omega⟩
theorem mem_fold : ∀ {xs l : List Int} {m : Int}, m ∈ xs.foldl add1 l → m ∈ l ∨ m ∈ xs
  | [], l, m, h => .inl h
  | x :: xs, l, m, h => by
    rw [List.foldl_cons] at h
    rcases mem_fold h with h | h
    · unfold add1 at h
      split at h
      · exact .inl h
      · rcases List.mem_append.1 h with h | h
        · exact .inl h
        · rw [List.mem_singleton.1 h]; exact .inr List.mem_cons_self
    · exact .inr (List.mem_cons_of_mem _ h)
theorem first_in {v g : api_Value} (h : Few3 v) (hg : Few3 g) : ∃ l : List Int, reach_First v g = some l ∧ ∀ m ∈ l, 1 ≤ m ∧ m ≤ 4096 := by
  obtain ⟨v', d1, d2, d3⟩ := drop_eq h (Str.mk [80, 97, 114, 101, 110, 116])
  have l1 := kept_len (rs3 v')
  have l2 := kept_len (rs3 g)
  have l3 := rs3_len d3
  have l4 := rs3_len hg
  have hnd : (kept (rs3 v')).Nodup := (refsL_nodup 300 v' [] List.nodup_nil).filter _
  have e0 : (kept (rs3 v')).foldl add1 [] = kept (rs3 v') := fold_new _ [] (by simpa using hnd)
  obtain ⟨m1, p1, p2⟩ := put_eq [] [] (kept (rs3 v')) (fun k => rfl) (by unfold room; simp only [List.length_nil]; omega)
  rw [e0] at p1 p2
  obtain ⟨m2, p3, p4⟩ := put_eq m1 (kept (rs3 v')) (kept (rs3 g)) p2 (by unfold room; omega)
  refine ⟨(kept (rs3 g)).foldl add1 (kept (rs3 v')), bnd_of d1 (bnd_of (next_eq d3) (bnd_of p1 (bnd_of (next_eq hg) (bnd_of p3 rfl)))), fun m hm => ?_⟩
  rcases mem_fold hm with hm | hm
  · exact kept_in' hm
  · exact kept_in' hm
end Go.AB
end

section
namespace Go.AB
open Go

def wD : api_Value := ⟨7, 0, ⟨[]⟩, [⟨5, 0, Str.mk [65], []⟩, ⟨8, 2, ⟨[]⟩, []⟩, ⟨5, 0, Str.mk [66], []⟩, ⟨8, 1, ⟨[]⟩, []⟩, ⟨5, 0, Str.mk [80, 97, 114, 101, 110, 116], []⟩, ⟨8, 9, ⟨[]⟩, []⟩]⟩
def wR (n : Int) : api_Value := ⟨8, n, ⟨[]⟩, []⟩
theorem x1 : value_DictOf [⟨5, 0, Str.mk [80, 97, 114, 101, 110, 116], []⟩, wR 9, ⟨5, 0, Str.mk [65], []⟩, wR 2, ⟨5, 0, Str.mk [66], []⟩, wR 1] = some wD := by kernel_rfl
theorem x2 : value_Refs wD = some [2, 1, 9] := by kernel_rfl
theorem x3 : reach_Next wD = some [2, 1, 9] := by kernel_rfl
theorem x4 : reach_First wD (wR 4) = some [2, 1, 4] := by kernel_rfl
theorem x5 : ref21_Same [2, 1, 4] [2, 1, 4] = some true := by kernel_rfl
def wO (v : api_Value) : api_Object := ⟨v, false, Str.mk []⟩
def wN : api_Value := ⟨0, 0, Str.mk [], []⟩
def wF : file_File := ⟨1, 3, ⟨[wO wD, wO (wR 3), wO wN], 1⟩⟩
theorem y1 : reach_row_put (reach_row.mk [] []) [1] = some ⟨[1], [(1, 0)]⟩ := by kernel_rfl
theorem y2 : file_File_Get wF 1 = some (wO wD, 0, 0) := by kernel_rfl
theorem y3 : reach_First wD wN = some [2, 1] := by kernel_rfl
theorem y4 : reach_row_put ⟨[1], [(1, 0)]⟩ [2, 1] = some ⟨[1, 2], [(1, 0), (2, 1)]⟩ := by kernel_rfl
theorem y5 : file_File_Get wF 2 = some (wO (wR 3), 0, 0) := by kernel_rfl
theorem y6 : reach_Next (wR 3) = some [3] := by kernel_rfl
theorem y7 : reach_row_put ⟨[1, 2], [(1, 0), (2, 1)]⟩ [3] = some ⟨[1, 2, 3], [(1, 0), (2, 1), (3, 2)]⟩ := by kernel_rfl
theorem y8 : file_File_Get wF 3 = some (wO wN, 0, 0) := by kernel_rfl
theorem y9 : reach_Next wN = some [] := by kernel_rfl
theorem y10 : reach_row_put ⟨[1, 2, 3], [(1, 0), (2, 1), (3, 2)]⟩ [] = some ⟨[1, 2, 3], [(1, 0), (2, 1), (3, 2)]⟩ := by kernel_rfl
def wS : Nat → List api_Object × reach_row
  | 0 => ([], ⟨[1], [(1, 0)]⟩)
  | 1 => ([wO wD], ⟨[1, 2], [(1, 0), (2, 1)]⟩)
  | 2 => ([wO wD, wO (wR 3)], ⟨[1, 2, 3], [(1, 0), (2, 1), (3, 2)]⟩)
  | _ => ([wO wD, wO (wR 3), wO wN], ⟨[1, 2, 3], [(1, 0), (2, 1), (3, 2)]⟩)
theorem closure_w : reach_Closure wF (tree_Leaf.mk 1 ([] : List Int) (api_Value.mk 0 0 (Str.mk []) ([] : List api_Value))) = some ([1, 2, 3], [wO wD, wO (wR 3), wO wN], 0, 0) := by
  unfold reach_Closure
  refine bnd_of y1 ?_
  refine jnS_of (z := (.inl ([wO wD, wO (wR 3), wO wN], ⟨[1, 2, 3], [(1, 0), (2, 1), (3, 2)]⟩))) ?_ (by rfl)
  refine bndS_of (z := (.inl ([wO wD, wO (wR 3), wO wN], ⟨[1, 2, 3], [(1, 0), (2, 1), (3, 2)]⟩))) ?_ (by rfl)
  refine iter_upto 3 wS (by rfl) (by decide) (fun k hk => ?_) ?_
  · match k, hk with
    | 0, _ => exact if_of rfl (need_of ⟨by decide, by decide⟩ (bnd_of y2 (if_not (by decide) (jn_of (if_of rfl (bnd_of y3 (bnd_of y4 rfl))) (need_of (by decide) rfl)))))
    | 1, _ => exact if_of rfl (need_of ⟨by decide, by decide⟩ (bnd_of y5 (if_not (by decide) (jn_of (if_not (by decide) (bnd_of y6 (bnd_of y7 rfl))) (need_of (by decide) rfl)))))
    | 2, _ => exact if_of rfl (need_of ⟨by decide, by decide⟩ (bnd_of y8 (if_not (by decide) (jn_of (if_not (by decide) (bnd_of y9 (bnd_of y10 rfl))) (need_of (by decide) rfl)))))
  · exact if_not (by decide) rfl
set_option maxHeartbeats 400000 in
theorem works21_true : law21_works = some true := by
  unfold law21_works
  refine bnd_of (a := ⟨5, 0, Str.mk [80, 97, 114, 101, 110, 116], []⟩) (by kernel_rfl) ?_
  refine bnd_of (a := wR 9) (by kernel_rfl) ?_
  refine bnd_of (a := ⟨5, 0, Str.mk [65], []⟩) (by kernel_rfl) ?_
  refine bnd_of (a := wR 2) (by kernel_rfl) ?_
  refine bnd_of (a := ⟨5, 0, Str.mk [66], []⟩) (by kernel_rfl) ?_
  refine bnd_of (a := wR 1) (by kernel_rfl) ?_
  refine bnd_of (a := wD) x1 ?_
  refine bnd_of (a := wR 3) (by kernel_rfl) ?_
  refine bnd_of (a := wF) (by kernel_rfl) ?_
  refine bnd_of (a := ([1, 2, 3], [wO wD, wO (wR 3), wO wN], 0, 0)) closure_w ?_
  refine bnd_of (a := true) (by kernel_rfl) ?_
  refine bnd_of (a := [2, 1, 9]) (by kernel_rfl) ?_
  refine bnd_of (a := true) (by kernel_rfl) ?_
  refine bnd_of (a := wR 4) (by kernel_rfl) ?_
  refine bnd_of (a := [2, 1, 4]) (by kernel_rfl) ?_
  refine bnd_of (a := true) (by kernel_rfl) ?_
  kernel_rfl
theorem few3 (v : api_Value) : ∃ r, ref11_Few bigN v 300 = some r ∧ (0 ≤ r → Few3 v) := by
  obtain ⟨r, h1, h2, h3, h4⟩ := few bigN v 300 (by decide) (by decide) (by decide)
  refine ⟨r, h1, fun h => ?_⟩
  obtain ⟨h5, h6⟩ := h4 h
  exact ⟨h5, by have : (cnt 300 v : Int) ≤ 300 - r := h6; omega⟩
theorem when_of {α : Type} {g : Bool} {z : α} {o r : Option α} (hg : g = true) (h : o = r) : whenB g z o = r := by rw [hg, whenB_t]; exact h
theorem when_no {α : Type} {g : Bool} {z : α} {o : Option α} (hg : g = false) : whenB g z o = some z := by rw [hg, whenB_f]
end Go.AB
end

section
namespace Go.AB
open Go

theorem texts : ∀ (n : Nat) (v : api_Value) (fuel : Nat), W n v → n ≤ fuel → n ≤ 4611686018427387904 → ∃ b, ref14_texts fuel v = some b
  | 0, _, _, h, _, _ => h.elim
  | n + 1, _, 0, _, h, _ => by omega
  | n + 1, v, fuel + 1, h, hf, hn => by
    rw [ref14_texts]
    have hit : ∃ o : Unit ⊕ Bool, iter (fun (k3 : Int) =>
          if decide (k3 < (v.L.length : Int)) then
            need (0 ≤ k3 ∧ k3 < v.L.length) <|
            bnd (ref14_texts fuel (ix v.L k3)) fun r6 =>
            if !r6 then
              some (.inr (.inr false))
            else
              some (.inl (w64 (k3 + 1)))
          else
            some (.inr (.inl ()))) 0 = some o ∧ True := by
      refine iter_inv (fun k => 0 ≤ k) (fun k => ((v.L.length : Int) - k).toNat) _ (Int.le_refl 0) (by have := h.1; omega) fun k hk => ?_
      by_cases hl : k < (v.L.length : Int)
      · rw [if_pos (by simpa using hl), need_pos ⟨hk, hl⟩]
        obtain ⟨b, hb⟩ := texts n (ix v.L k) fuel (by
          rw [ix_at (by omega)]
          exact h.2 _ (List.getElem_mem _)) (by omega) (by omega)
        rw [hb, bnd_some]
        cases b with
        | false => exact ⟨_, rfl, trivial⟩
        | true =>
          refine ⟨_, rfl, ?_⟩
          have := h.1
          show 0 ≤ w64 (k + 1) ∧ ((v.L.length : Int) - w64 (k + 1)).toNat < ((v.L.length : Int) - k).toNat
          rw [w64_id (by omega) (by omega)]
          exact ⟨by omega, by omega⟩
      · rw [if_neg (by simpa using hl)]
        exact ⟨_, rfl, trivial⟩
    obtain ⟨o, h1, _⟩ := hit
    rw [h1]
    cases o with
    | inl u => exact ⟨_, rfl⟩
    | inr b => exact ⟨_, rfl⟩

theorem ref14_Few_some (o : api_Object) (n : Int) : ∃ b, ref14_Few o n = some b ∧ (b = true → Few3 o.V) := by
  obtain ⟨r, h1, h4⟩ := few3 o.V
  unfold ref14_Few
  rw [h1, bnd_some]
  by_cases hc : ((decide (r ≥ 0)) && (decide ((o.Data.b.length : Int) ≤ n))) = true
  · have hr : 0 ≤ r := by simp at hc; exact hc.1
    obtain ⟨b, hb⟩ := texts 300 o.V bigN (h4 hr).1 (by decide) (by decide)
    rw [hc, whenB_t, hb, bnd_some]
    exact ⟨_, rfl, fun _ => h4 hr⟩
  · have hc' : ((decide (r ≥ 0)) && (decide ((o.Data.b.length : Int) ≤ n))) = false := by simpa using hc
    rw [hc', whenB_f, bnd_some]
    exact ⟨_, rfl, fun h => by cases h⟩
theorem few_all (l : List api_Object) (most : Int) (hm : most ≤ 1000) : ∃ b, ref19_Few l most = some b ∧ (b = true → (l.length : Int) ≤ most ∧ ∀ o ∈ l, Few3 o.V) := by
  unfold ref19_Few
  by_cases hl : (l.length : Int) > most
  · rw [if_pos (by simpa using hl)]
    exact ⟨false, rfl, fun h => by cases h⟩
  rw [if_neg (by simpa using hl)]
  have key : ∃ o : Unit ⊕ Bool, iter (fun (k2 : Int) =>
          if decide (k2 < (l.length : Int)) then
            need (0 ≤ k2 ∧ k2 < l.length) <|
            bnd (ref14_Few (ix l k2) 300) fun r4 =>
            if !r4 then
              some (.inr (.inr false))
            else
              some (.inl (w64 (k2 + 1)))
          else
            some (.inr (.inl ()))) 0 = some o ∧ ((o = .inl () ∧ ∀ o ∈ l, Few3 o.V) ∨ o = .inr false) := by
    refine iter_inv (fun k => ∃ j : Nat, k = (j : Int) ∧ j ≤ l.length ∧ ∀ i (h : i < j) (h' : i < l.length), Few3 (l[i]).V) (fun k => ((l.length : Int) - k).toNat) _ ⟨0, rfl, Nat.zero_le _, fun i h => absurd h (Nat.not_lt_zero i)⟩ (by show ((l.length : Int) - 0).toNat < _; omega) ?_
    rintro k ⟨j, rfl, hj, hi⟩
    by_cases hjl : j < l.length
    · obtain ⟨b, h1, h2⟩ := ref14_Few_some (ix l (j : Int)) 300
      rw [if_pos (by simpa using hjl), need_pos ⟨by omega, by omega⟩, h1, bnd_some]
      cases b with
      | false => exact ⟨_, rfl, .inr rfl⟩
      | true =>
        refine ⟨_, rfl, ?_⟩
        show (∃ j' : Nat, w64 ((j : Int) + 1) = (j' : Int) ∧ _) ∧ _
        rw [w64_id (by omega) (by omega)]
        refine ⟨⟨j + 1, by omega, by omega, fun i h h' => ?_⟩, by omega⟩
        rcases Nat.lt_or_ge i j with hij | hij
        · exact hi i hij h'
        · have : i = j := by omega
          subst this
          rw [ix_nat hjl] at h2
          exact h2 rfl
    · rw [if_neg (by simpa using hjl)]
      refine ⟨_, rfl, .inl ⟨rfl, fun o ho => ?_⟩⟩
      obtain ⟨i, h, rfl⟩ := List.getElem_of_mem ho
      exact hi i (by omega) h
  obtain ⟨o, h1, h2⟩ := key
  rw [h1]
  rcases h2 with ⟨rfl, h2⟩ | rfl
  · exact ⟨true, rfl, fun _ => ⟨by omega, h2⟩⟩
  · exact ⟨false, rfl, fun h => by cases h⟩

def zeroO : api_Object := ⟨⟨0, 0, Str.mk [], []⟩, false, Str.mk []⟩
def getO (d : api_Doc) (n : Int) : api_Object := if (decide (n < 1)) || (decide (n > (d.Objects.length : Int))) then zeroO else ix d.Objects (n - 1)
structure FewD (d : api_Doc) : Prop where
  len : d.Objects.length ≤ 1000
  w : ∀ o ∈ d.Objects, Few3 o.V
theorem FewD.get {d : api_Doc} (h : FewD d) (n : Int) : Few3 (getO d n).V := by
  unfold getO
  split
  · exact ⟨⟨Nat.zero_le _, fun x hx => by cases hx⟩, by decide⟩
  · rename_i hc
    simp at hc
    rw [ix_at (by omega)]
    exact h.w _ (List.getElem_mem _)
theorem Get_eq (f : file_File) (n : Int) (h : FewD f.get_) : file_File_Get f n = some (getO f.get_ n, 0, 0) := by
  have hl := h.len
  unfold file_File_Get file_File_is
  rw [bnd_some]
  refine if_not (by simp) ?_
  unfold file_Of_1 getO
  by_cases hc : ((decide (n < 1)) || (decide (n > (f.get_.Objects.length : Int)))) = true
  · rw [if_pos hc, if_pos hc]; rfl
  · rw [if_neg hc, if_neg hc]
    simp at hc
    rw [w64_id (by omega) (by omega), need_pos (by omega)]; rfl

/-- The numbers that the object at a place of the row brings. -/
def news (d : api_Doc) (g : api_Value) (k : Nat) (n : Int) : List Int :=
  if k = 0 then (match reach_First (getO d n).V g with | some l => l | none => []) else kept (rs3 (getO d n).V)
/-- A number that is kept. -/
def inR (n : Int) : Prop := 1 ≤ n ∧ n ≤ 4096
theorem kept_in {l : List Int} {n : Int} (h : n ∈ kept l) : inR n := by
  unfold kept gone at h
  have := (List.mem_filter.1 h).2
  simp at this
  exact ⟨by omega, by omega⟩
theorem add1_mem {l : List Int} {n m : Int} : m ∈ add1 l n ↔ m ∈ l ∨ m = n := by
  unfold add1
  cases h : l.contains n with
  | true =>
    simp only [if_true]
    constructor
    · exact .inl
    · rintro (h1 | rfl)
      · exact h1
      · simpa using h
  | false => simp
theorem fold_mem : ∀ {xs l : List Int} {m : Int}, m ∈ xs.foldl add1 l ↔ m ∈ l ∨ m ∈ xs
  | [], l, m => by simp
  | x :: xs, l, m => by
    rw [List.foldl_cons, fold_mem (xs := xs), add1_mem, List.mem_cons, or_assoc]
theorem fold_nodup : ∀ {xs l : List Int}, l.Nodup → (xs.foldl add1 l).Nodup
  | [], _, h => h
  | x :: xs, l, h => by rw [List.foldl_cons]; exact fold_nodup (add1_nodup h x)
theorem add1_prefix (l : List Int) (n : Int) : l <+: add1 l n := by
  unfold add1
  cases l.contains n with
  | true => exact List.prefix_refl _
  | false => exact List.prefix_append ..
theorem fold_prefix : ∀ (xs l : List Int), l <+: xs.foldl add1 l
  | [], l => List.prefix_refl _
  | x :: xs, l => by rw [List.foldl_cons]; exact (add1_prefix l x).trans (fold_prefix xs _)
theorem filter_count (c : Int) : ∀ l : List Int, (l.filter fun m => m != c).length + l.count c = l.length
  | [] => rfl
  | a :: l => by
    have ih := filter_count c l
    rw [List.filter_cons, List.count_cons]
    by_cases e : a = c
    · subst e; simp; omega
    · have e1 : (a != c) = true := by simpa using e
      have e2 : (a == c) = false := by simpa using e
      rw [e1, e2]; simp; omega
/-- As many different numbers as there are. -/
theorem nodup_len : ∀ (n : Nat) (l : List Int), l.Nodup → (∀ m ∈ l, 1 ≤ m ∧ m ≤ (n : Int)) → l.length ≤ n
  | 0, [], _, _ => by simp
  | 0, a :: l, _, h => by have := h a List.mem_cons_self; omega
  | n + 1, l, hn, h => by
    obtain ⟨c, hc⟩ : ∃ c : Int, c = ((n + 1 : Nat) : Int) := ⟨_, rfl⟩
    have h1 : (l.filter fun m => m != c).length ≤ n := nodup_len n _ (hn.filter _) fun m hm => by
      have h2 := List.mem_filter.1 hm
      have h3 := h m h2.1
      have h4 : m ≠ c := by simpa using h2.2
      omega
    have h2 := filter_count c l
    have h3 := List.nodup_iff_count.1 hn c
    omega

/-- The row behind so many steps. -/
def rowK (d : api_Doc) (g : api_Value) (p : Int) : Nat → List Int
  | 0 => [p]
  | k + 1 => if k < (rowK d g p k).length then (news d g k ((rowK d g p k).getD k 0)).foldl add1 (rowK d g p k) else rowK d g p k
theorem rowK_prefix (d : api_Doc) (g : api_Value) (p : Int) (k : Nat) : rowK d g p k <+: rowK d g p (k + 1) := by
  rw [rowK]
  split
  · exact fold_prefix ..
  · exact List.prefix_refl _
theorem rowK_mono (d : api_Doc) (g : api_Value) (p : Int) : ∀ (j k : Nat), k ≤ j → rowK d g p k <+: rowK d g p j
  | 0, k, h => by obtain rfl : k = 0 := by omega
                  exact List.prefix_refl _
  | j + 1, k, h => by
    by_cases e : k = j + 1
    · subst e; exact List.prefix_refl _
    · exact (rowK_mono d g p j k (by omega)).trans (rowK_prefix ..)
theorem rowK_nodup (d : api_Doc) (g : api_Value) (p : Int) : ∀ k, (rowK d g p k).Nodup
  | 0 => by simp [rowK]
  | k + 1 => by
    rw [rowK]
    split
    · exact fold_nodup (rowK_nodup d g p k)
    · exact rowK_nodup d g p k
theorem news_in {d : api_Doc} {g : api_Value} (hd : FewD d) (hg : Few3 g) {k : Nat} {n m : Int} (h : m ∈ news d g k n) : inR m := by
  unfold news at h
  split at h
  · obtain ⟨v', d1, d2, d3⟩ := drop_eq (hd.get n) (Str.mk [80, 97, 114, 101, 110, 116])
    have hnd : (kept (rs3 v')).Nodup := (refsL_nodup 300 v' [] List.nodup_nil).filter _
    obtain ⟨l, f1, f2⟩ := first_in (hd.get n) hg
    rw [f1] at h
    exact f2 m h
  · exact kept_in h
theorem rowK_in {d : api_Doc} {g : api_Value} (hd : FewD d) (hg : Few3 g) (p : Int) : ∀ k, ∀ m ∈ rowK d g p k, m = p ∨ inR m
  | 0, m, h => by simp [rowK] at h; exact .inl h
  | k + 1, m, h => by
    rw [rowK] at h
    split at h
    · rcases fold_mem.1 h with h | h
      · exact rowK_in hd hg p k m h
      · exact .inr (news_in hd hg h)
    · exact rowK_in hd hg p k m h
theorem rowK_len {d : api_Doc} {g : api_Value} (hd : FewD d) (hg : Few3 g) (p : Int) (k : Nat) : (rowK d g p k).length ≤ 4097 := by
  have h := rowK_mono d g p k 0 (Nat.zero_le _)
  obtain ⟨t, ht⟩ := h
  have hn := rowK_nodup d g p k
  have hi := rowK_in hd hg p k
  rw [← ht] at hn hi ⊢
  have e : rowK d g p 0 = [p] := rfl
  rw [e] at hn hi ⊢
  rw [List.nodup_append] at hn
  have : t.length ≤ 4096 := nodup_len 4096 t hn.2.1 fun m hm => by
    rcases hi m (List.mem_append_right _ hm) with h | h
    · exact (hn.2.2 p List.mem_cons_self m hm h.symm).elim
    · exact h
  simp; omega
/-- There is a step at which all of the row is done. -/
theorem rowK_stop {d : api_Doc} {g : api_Value} (hd : FewD d) (hg : Few3 g) (p : Int) : ∃ n, n ≤ 4097 ∧ (rowK d g p n).length = n ∧ ∀ k, k < n → k < (rowK d g p k).length := by
  apply Classical.byContradiction
  intro hno
  have key : ∀ n, n ≤ 4098 → ∀ k, k < n → k < (rowK d g p k).length := by
    intro n
    induction n with
    | zero => intro _ k h; omega
    | succ n ih =>
      intro hn k hk
      by_cases e : k < n
      · exact ih (by omega) k e
      · obtain rfl : k = n := by omega
        apply Classical.byContradiction
        intro hge
        have hle : k ≤ (rowK d g p k).length := by
          cases k with
          | zero => omega
          | succ k =>
            have h1 := ih (by omega) k (by omega)
            have h2 := (rowK_prefix d g p k).length_le
            omega
        exact hno ⟨k, by have := rowK_len hd hg p k; omega, by omega, ih (by omega)⟩
  have h1 := key 4098 (Nat.le_refl _) 4097 (by omega)
  have h2 := rowK_len hd hg p 4097
  omega
def objs (d : api_Doc) (l : List Int) : List api_Object := l.map (getO d)
theorem news_eq {d : api_Doc} {g : api_Value} (hd : FewD d) (hg : Few3 g) (k : Nat) (n : Int) : (news d g k n).length ≤ 600 := by
  unfold news
  split
  · obtain ⟨l, f1, f2, f3⟩ := first_eq (hd.get n) hg
    rw [f1]; exact f3
  · have := kept_len (rs3 (getO d n).V)
    have := rs3_len (hd.get n)
    omega
theorem closure_eq (f : file_File) (x : tree_Leaf) (h : FewD f.get_) (hg : Few3 x.Given) : ∃ n, n ≤ 4097 ∧ (rowK f.get_ x.Given x.Page n).length = n ∧ (∀ k, k < n → k < (rowK f.get_ x.Given x.Page k).length) ∧
    reach_Closure f x = some (rowK f.get_ x.Given x.Page n, objs f.get_ (rowK f.get_ x.Given x.Page n), 0, 0) := by
  obtain ⟨n, h1, h2, h3⟩ := rowK_stop h hg x.Page
  refine ⟨n, h1, h2, h3, ?_⟩
  obtain ⟨m0, p1, p2⟩ := put_eq [] [] [x.Page] (fun k => rfl) (by unfold room; simp)
  unfold reach_Closure
  refine bnd_of p1 ?_
  have hrun : ∀ (r k : Nat), k + r = n → ∀ m, InL m (rowK f.get_ x.Given x.Page k) → ∃ m', Runs (fun ((out11, o12) : (List api_Object) × reach_row) =>
        if decide ((out11.length : Int) < (o12.l_.length : Int)) then
          need (0 ≤ (out11.length : Int) ∧ (out11.length : Int) < o12.l_.length) <|
          bnd (file_File_Get f (ix o12.l_ (out11.length : Int))) fun r22 =>
          if r22.2.2 != 0 then
            some (.inr (.inr (([] : List Int), ([] : List api_Object), r22.2.1, r22.2.2, o12)))
          else
            jn (
              if (out11.length : Int) == 0 then
                bnd (reach_First r22.1.V x.Given) fun r28 =>
                bnd (reach_row_put o12 r28) fun r29 =>
                some r29
              else
                bnd (reach_Next r22.1.V) fun r30 =>
                bnd (reach_row_put o12 r30) fun r31 =>
                some r31) fun (o27 : reach_row) =>
            need ((out11.length + [r22.1].length) * 80 ≤ room) <|
            some (.inl (out11 ++ [r22.1], o27))
        else
          some (.inr (.inl (out11, o12)))) (r + 1) (objs f.get_ ((rowK f.get_ x.Given x.Page k).take k), ⟨rowK f.get_ x.Given x.Page k, m⟩)
        ((.inl (objs f.get_ (rowK f.get_ x.Given x.Page n), (⟨rowK f.get_ x.Given x.Page n, m'⟩ : reach_row))) : ((List api_Object) × reach_row) ⊕ ((List Int) × (List api_Object) × Int × Int × reach_row)) := by
    intro r
    induction r with
    | zero =>
      intro k hk m _
      obtain rfl : k = n := by omega
      refine ⟨m, .stop ?_⟩
      have e : (rowK f.get_ x.Given x.Page k).take k = rowK f.get_ x.Given x.Page k := List.take_of_length_le (by omega)
      rw [e]
      refine if_not ?_ rfl
      simp [objs]
    | succ r ih =>
      intro k hk m hm
      have hkl := h3 k (by omega)
      have hrl := rowK_len h hg x.Page k
      generalize hR : rowK f.get_ x.Given x.Page k = R at hkl hm hrl
      have hlen : (objs f.get_ (R.take k)).length = k := by simp [objs]; omega
      have hix : ix R (k : Int) = R[k] := ix_nat hkl
      have hgd : R.getD k 0 = R[k] := by simp [List.getD_eq_getElem?_getD, hkl]
      have hnl := news_eq h hg k R[k]
      have hnext : rowK f.get_ x.Given x.Page (k + 1) = (news f.get_ x.Given k R[k]).foldl add1 R := by
        rw [rowK, hR, if_pos hkl, hgd]
      obtain ⟨m1, q1, q2⟩ := put_eq m R (news f.get_ x.Given k R[k]) hm (by unfold room; omega)
      obtain ⟨m', q3⟩ := ih (k + 1) (by omega) m1 (by rw [hnext]; exact q2)
      refine ⟨m', .step (t := (objs f.get_ ((rowK f.get_ x.Given x.Page (k + 1)).take (k + 1)), ⟨rowK f.get_ x.Given x.Page (k + 1), m1⟩)) ?_ q3⟩
      have htake : objs f.get_ ((rowK f.get_ x.Given x.Page (k + 1)).take (k + 1)) = objs f.get_ (R.take k) ++ [getO f.get_ R[k]] := by
        have hp := rowK_prefix f.get_ x.Given x.Page k
        rw [hR] at hp
        obtain ⟨t, ht⟩ := hp
        rw [← ht, List.take_append_of_le_length (by omega), List.take_succ_eq_append_getElem hkl]
        exact List.map_append
      rw [htake, hnext]
      dsimp only
      rw [hlen]
      refine if_of (decide_eq_true (by omega)) (need_of ⟨by omega, by omega⟩ (bnd_of (Get_eq f _ h) (if_not (by simp) ?_)))
      rw [hix]
      refine jn_of (a := ⟨(news f.get_ x.Given k R[k]).foldl add1 R, m1⟩) ?_ (need_of (by unfold room; simp only [List.length_cons, List.length_nil]; omega) rfl)
      by_cases hk0 : k = 0
      · subst hk0
        obtain ⟨l, f1, f2, f3⟩ := first_eq (h.get R[0]) hg
        have e : news f.get_ x.Given 0 R[0] = l := by unfold news; rw [if_pos rfl, f1]
        rw [e] at q1 ⊢
        exact if_of (by simp) (bnd_of f1 (bnd_of q1 rfl))
      · have e : news f.get_ x.Given k R[k] = kept (rs3 (getO f.get_ R[k]).V) := by unfold news; rw [if_neg hk0]
        rw [e] at q1 ⊢
        exact if_not (by simp; omega) (bnd_of (next_eq (h.get _)) (bnd_of q1 rfl))
  obtain ⟨m', hr⟩ := hrun n 0 (by omega) m0 p2
  refine jnS_of (z := (.inl (objs f.get_ (rowK f.get_ x.Given x.Page n), ⟨rowK f.get_ x.Given x.Page n, m'⟩))) ?_ rfl
  refine bndS_of (z := (.inl (objs f.get_ (rowK f.get_ x.Given x.Page n), ⟨rowK f.get_ x.Given x.Page n, m'⟩))) ?_ rfl
  exact hr.iter (by omega)
end Go.AB
end

section
namespace Go.AB
open Go

theorem bytesLess_irrefl : ∀ l : List UInt8, Op.bytesLess l l = false
  | [] => rfl
  | a :: l => by
    unfold Op.bytesLess
    simp [bytesLess_irrefl l]
theorem rcompare_self : ∀ (n : Nat) (v : api_Value) (fuel : Nat), W n v → n ≤ fuel → n ≤ 1000 → ref11_Compare fuel v v = some 0
  | 0, _, _, h, _, _ => h.elim
  | n + 1, v, 0, _, h, _ => by omega
  | n + 1, v, fuel + 1, h, hf, hn => by
    have hl := h.1
    rw [ref11_Compare]
    refine if_not (by simp [bytesLess_irrefl]) (if_not (by simp) ?_)
    refine jnS_of (z := .inl ()) (bndS_of (z := .inl ()) (iter_cnt v.L.length (by omega) (fun k hk => ?_) (if_not (by simp) rfl)) rfl) (if_not (by simp) (if_not (by simp) rfl))
    exact if_of (by simp; omega) (need_of (by omega) (need_of (by omega) (bnd_of (rcompare_self n _ fuel (by rw [ix_nat hk]; exact h.2 _ (List.getElem_mem hk)) (by omega) (by omega)) rfl)))
theorem rsame_self {n : Nat} {v : api_Value} (h : W n v) (hn : n ≤ 1000) : ref11_Same v v = some true := by
  unfold ref11_Same
  rw [rcompare_self n v bigN h (by have : 1000000 ≤ bigN := by decide
                                   omega) hn]
  rfl
theorem osame_self (o : api_Object) (h : Few3 o.V) : ref14_Same o o = some true := by
  refine bnd_of (rsame_self h.1 (by decide)) ?_
  cases o.Stream <;> simp
theorem objs_same (d : api_Doc) (hd : FewD d) (l : List Int) (hl : l.length ≤ 4097) : ref19_Same (objs d l) (objs d l) = some true := by
  have ho : (objs d l).length = l.length := by simp [objs]
  unfold ref19_Same
  refine if_not (by simp) (jnS_of (z := .inl ()) (bndS_of (z := .inl ()) (iter_cnt l.length (by omega) (fun k hk => ?_) ?_) rfl) rfl)
  · have e : ix (objs d l) (k : Int) = getO d l[k] := by
      rw [ix_nat (by omega)]; simp [objs]
    rw [e]
    exact if_of (decide_eq_true (by omega)) (need_of ⟨by omega, by omega⟩ (need_of ⟨by omega, by omega⟩ (bnd_of (osame_self _ (hd.get _)) (if_not (by simp) rfl))))
  · refine if_not ?_ rfl
    rw [ho]; simp
def fileR (d : api_Doc) : ref19_File := ref19_File.mk d.Objects (ref16_File.mk ([] : List UInt8) ([] : List Bool)) (ref17_Table.mk ([] : List Int) d.Root)
theorem rGet_eq (d : api_Doc) (n : Int) (h : FewD d) : ref19_Get (fileR d) n = some (getO d n, 0, 0) := by
  have hl := h.len
  unfold ref19_Get getO
  by_cases hc : ((decide (n < 1)) || (decide (n > (d.Objects.length : Int)))) = true
  · rw [if_pos hc]; exact if_of hc rfl
  · rw [if_neg hc]
    refine if_not hc ?_
    simp at hc
    rw [w64_id (by omega) (by omega)]
    exact need_of (by show 0 ≤ n - 1 ∧ n - 1 < (d.Objects.length : Int); omega) rfl
theorem rclosure_eq (d : api_Doc) (x : ref20_Leaf) (h : FewD d) (hg : Few3 x.Given) {n : Nat} (h1 : n ≤ 4097) (h2 : (rowK d x.Given x.Page n).length = n) (h3 : ∀ k, k < n → k < (rowK d x.Given x.Page k).length) :
    ref21_Closure (fileR d) x = some (rowK d x.Given x.Page n, objs d (rowK d x.Given x.Page n), 0, 0) := by
  unfold ref21_Closure
  refine jnS_of (z := (.inl (rowK d x.Given x.Page n, objs d (rowK d x.Given x.Page n)))) ?_ rfl
  refine bndS_of (z := (.inl (rowK d x.Given x.Page n, objs d (rowK d x.Given x.Page n)))) ?_ rfl
  refine iter_upto n (fun k => (rowK d x.Given x.Page k, objs d ((rowK d x.Given x.Page k).take k), (k : Int))) rfl (by omega) (fun k hk => ?_) ?_
  · have hkl := h3 k hk
    have hrl := rowK_len h hg x.Page k
    have hp := rowK_prefix d x.Given x.Page k
    generalize hR : rowK d x.Given x.Page k = R at hkl hrl hp
    have hlen : (objs d (R.take k)).length = k := by simp [objs]; omega
    have hix : ix R (k : Int) = R[k] := ix_nat hkl
    have hgd : R.getD k 0 = R[k] := by simp [List.getD_eq_getElem?_getD, hkl]
    have hnl := news_eq h hg k R[k]
    have hnext : rowK d x.Given x.Page (k + 1) = (news d x.Given k R[k]).foldl add1 R := by
      rw [rowK, hR, if_pos hkl, hgd]
    have htake : objs d ((rowK d x.Given x.Page (k + 1)).take (k + 1)) = objs d (R.take k) ++ [getO d R[k]] := by
      obtain ⟨t, ht⟩ := hp
      rw [← ht, List.take_append_of_le_length (by omega), List.take_succ_eq_append_getElem hkl]
      exact List.map_append
    have hw : w64 ((k : Int) + 1) = ((k + 1 : Nat) : Int) := by rw [w64_id (by omega) (by omega)]; omega
    dsimp only
    rw [htake, hnext, ← hw]
    refine if_of (decide_eq_true (by omega)) (need_of ⟨by omega, by omega⟩ (bnd_of (rGet_eq d _ h) (if_not (by simp) ?_)))
    rw [hix]
    have hon := on_eq R (news d x.Given k R[k]) (by unfold room; omega)
    refine jn_of (a := (news d x.Given k R[k]).foldl add1 R) ?_ (need_of (by dsimp only; rw [hlen]; unfold room; simp only [List.length_cons, List.length_nil]; omega) rfl)
    by_cases hk0 : k = 0
    · subst hk0
      obtain ⟨l, f1, f2, f3⟩ := first_eq (h.get R[0]) hg
      have e : news d x.Given 0 R[0] = l := by unfold news; rw [if_pos rfl, f1]
      rw [e] at hon ⊢
      exact if_of (by simp) (bnd_of f2 (bnd_of hon rfl))
    · have e : news d x.Given k R[k] = kept (rs3 (getO d R[k]).V) := by unfold news; rw [if_neg hk0]
      rw [e] at hon ⊢
      exact if_not (by simp; omega) (bnd_of (rnext_eq (h.get _)) (bnd_of hon rfl))
  · have e : (rowK d x.Given x.Page n).take n = rowK d x.Given x.Page n := List.take_of_length_le (by omega)
    rw [e]
    refine if_not ?_ rfl
    simp; omega
theorem law21_ReachRows_true (d : api_Doc) (l : ref20_Leaf) : law21_ReachRows d l = some true := by
  obtain ⟨b1, f1, f2⟩ := few_all d.Objects 40 (by decide)
  obtain ⟨r, g1, g2⟩ := few3 l.Given
  have hF : ref21_Few l = some (decide (r ≥ 0)) := bnd_of g1 rfl
  unfold law21_ReachRows
  refine bnd_of f1 ?_
  cases b1 with
  | false => exact bnd_of (a := false) (when_no rfl) (if_of rfl (bnd_of works21_true rfl))
  | true =>
  refine bnd_of (a := decide (r ≥ 0)) (when_of rfl hF) ?_
  by_cases hr0 : r < 0
  · exact if_of (by simp; omega) (bnd_of works21_true rfl)
  have hr : r ≥ 0 := by omega
  refine if_not (by simp; omega) ?_
  have hd : FewD d := ⟨by have := (f2 rfl).1; omega, (f2 rfl).2⟩
  have hg : Few3 l.Given := g2 hr
  refine bnd_of (a := ⟨d.Root, d.Objects.length, d⟩) rfl (bnd_of (a := ⟨l.Page, l.Path, l.Given⟩) rfl ?_)
  obtain ⟨n, n1, n2, n3, hc⟩ := closure_eq ⟨d.Root, d.Objects.length, d⟩ ⟨l.Page, l.Path, l.Given⟩ hd hg
  have hc : reach_Closure ⟨d.Root, d.Objects.length, d⟩ ⟨l.Page, l.Path, l.Given⟩ = some (rowK d l.Given l.Page n, objs d (rowK d l.Given l.Page n), 0, 0) := hc
  refine bnd_of hc (bnd_of (a := fileR d) rfl (bnd_of (rclosure_eq d l hd hg n1 n2 n3) ?_))
  have hl := rowK_len hd hg l.Page n
  refine bnd_of (same_eq _ (by dsimp only; omega)) (bnd_of (when_of rfl (objs_same d hd _ hl)) (bnd_of (when_of rfl works21_true) rfl))
end Go.AB
end

section
namespace Go.AB
open Go Go.RowKit Go.ChangeShapes Go.WideShapes

/-- At a law's start: so many first cells of each block never change. -/
def bigR (N : Nat) (w : World) (b : Nat) : Nat := if b < w.heap.size then N else 0

theorem law_calls' {P : Program} {w : World} {f : FuncId} {args : List AV} {vs : Array Value} (N : Nat) (hf : FN P f args noStore fun rs _ => rs = [.bool true]) (ha : ArgsR w (bigR N w) args vs) :
    Calls P f vs w fun e w' => e = .returned (.bool true) ∧ Below w.heap.size w w' := by
  refine (hf ⟨bigR N w, fun _ => .none⟩ w vs ⟨fun _ _ => rfl, fun b hb => ?_⟩ (fun b => .inl rfl) (fun b o h => by cases h) ha).mono fun e w' ⟨v, rs, s', G', he, hq, _, _, hr, hp⟩ => ?_
  · show bigR N w b = 0
    unfold bigR
    rw [if_neg (by omega)]
  · subst hq
    refine ⟨?_, ⟨hp.os, hp.tape, hp.output, hp.size, fun b hb => hp.frame b hb (.inr rfl)⟩⟩
    rw [he]
    have := VR.inv_bool hr.1
    rw [this]

def VRs (w : World) (R : Nat → Nat) (as1 : List AV) (cs : List Value) : Prop := cs.length = as1.length ∧ ∀ (j : Nat) (a : AV) (v : Value), as1[j]? = some a → cs[j]? = some v → VR w R a v

theorem VRs.one {w : World} {R : Nat → Nat} {a : AV} {v : Value} (h : VR w R a v) : VRs w R [a] [v] := by
  refine ⟨rfl, fun j a' v' h1 h2 => ?_⟩
  cases j with
  | zero => cases h1; cases h2; exact h
  | succ j => simp at h1
theorem VRs.append {w : World} {R : Nat → Nat} {as1 bs : List AV} {cs ds : List Value} (h : VRs w R as1 cs) (k : VRs w R bs ds) : VRs w R (as1 ++ bs) (cs ++ ds) := by
  refine ⟨by rw [List.length_append, List.length_append, h.1, k.1], fun j a v h1 h2 => ?_⟩
  rcases Nat.lt_or_ge j as1.length with hj | hj
  · rw [List.getElem?_append_left hj] at h1
    rw [List.getElem?_append_left (by rw [h.1]; exact hj)] at h2
    exact h.2 j a v h1 h2
  · rw [List.getElem?_append_right hj] at h1
    rw [List.getElem?_append_right (by rw [h.1]; exact hj), h.1] at h2
    exact k.2 _ a v h1 h2

/-- What cells of a Go type read as: values of a Lean type. -/
def OpensC (P : Program) (t : TypeId) {α : Type} (n : Nat) (C : α → List AV) (wf : α → Prop) : Prop :=
  ∀ (H : Type) (enc : TypeId × Value → H) (w : World) (fuel : Nat) (cs : List Value) (x : DataW H × List MemPlace), DataW.trod enc P w 0 (fun _ => true) true fuel t cs = some x →
    cs.length = n ∧ ∃ a : α, wf a ∧ Fl (C a) ∧ ∃ N0, ∀ N, N0 ≤ N → VRs w (bigR N w) (C a) cs
def Opens (P : Program) (t : TypeId) (α : Type) [Enc α] (wf : α → Prop) : Prop := OpensC P t (Enc.w α) (Enc.cells : α → List AV) wf

section
variable {P : Program} {t : TypeId}
theorem fl_one {a : AV} (h : flatV a = true) : Fl [a] := by
  intro c hc
  rw [List.mem_singleton] at hc; rw [hc]; exact h

theorem opens_bool (ht : P.underlying t = some .bool) : Opens P t Bool fun _ => True := by
  intro H enc w fuel cs x h
  obtain ⟨b, rfl, _⟩ := DataW.trod_bool ht h
  exact ⟨rfl, b, trivial, fl_one rfl, 0, fun N _ => VRs.one (.bool b)⟩
theorem opens_int (ht : P.underlying t = some (.int .i64)) : Opens P t Int fun n => -9223372036854775808 ≤ n ∧ n ≤ 9223372036854775807 := by
  intro H enc w fuel cs x h
  obtain ⟨n, rfl, _, hw⟩ := DataW.trod_int ht h
  refine ⟨rfl, n, ?_, fl_one rfl, 0, fun N _ => VRs.one (.int _ n)⟩
  simpa [Lit.wf, IntKind.min, IntKind.max, IntKind.signed, IntKind.bits] using hw
theorem opens_u8 (ht : P.underlying t = some (.int .u8)) : Opens P t UInt8 fun _ => True := by
  intro H enc w fuel cs x h
  obtain ⟨n, rfl, _, hw⟩ := DataW.trod_int ht h
  have hb : 0 ≤ n ∧ n ≤ 255 := by simpa [Lit.wf, IntKind.min, IntKind.max, IntKind.signed, IntKind.bits] using hw
  refine ⟨rfl, UInt8.ofNat n.toNat, trivial, fl_one rfl, 0, fun N _ => ?_⟩
  have e : ((UInt8.ofNat n.toNat).toNat : Int) = n := by
    rw [UInt8.toNat_ofNat']; omega
  show VRs _ _ [.int .u8 ((UInt8.ofNat n.toNat).toNat : Int)] _
  rw [e]
  exact VRs.one (.int _ n)
theorem opens_u32 (ht : P.underlying t = some (.int .u32)) : Opens P t UInt32 fun _ => True := by
  intro H enc w fuel cs x h
  obtain ⟨n, rfl, _, hw⟩ := DataW.trod_int ht h
  have hb : 0 ≤ n ∧ n ≤ 4294967295 := by simpa [Lit.wf, IntKind.min, IntKind.max, IntKind.signed, IntKind.bits] using hw
  refine ⟨rfl, UInt32.ofNat n.toNat, trivial, fl_one rfl, 0, fun N _ => ?_⟩
  have e : ((UInt32.ofNat n.toNat).toNat : Int) = n := by
    rw [UInt32.toNat_ofNat']; omega
  show VRs _ _ [.int .u32 ((UInt32.ofNat n.toNat).toNat : Int)] _
  rw [e]
  exact VRs.one (.int _ n)
theorem opens_u64 (ht : P.underlying t = some (.int .u64)) : Opens P t UInt64 fun _ => True := by
  intro H enc w fuel cs x h
  obtain ⟨n, rfl, _, hw⟩ := DataW.trod_int ht h
  have hb : 0 ≤ n ∧ n ≤ 18446744073709551615 := by simpa [Lit.wf, IntKind.min, IntKind.max, IntKind.signed, IntKind.bits] using hw
  refine ⟨rfl, UInt64.ofNat n.toNat, trivial, fl_one rfl, 0, fun N _ => ?_⟩
  have e : ((UInt64.ofNat n.toNat).toNat : Int) = n := by
    rw [UInt64.toNat_ofNat']; omega
  show VRs _ _ [.int .u64 ((UInt64.ofNat n.toNat).toNat : Int)] _
  rw [e]
  exact VRs.one (.int _ n)
theorem opens_str (ht : P.underlying t = some .string) : Opens P t Str fun s => s.b.length ≤ maxLen := by
  intro H enc w fuel cs x h
  obtain ⟨s, rfl, _, hs⟩ := DataW.trod_string ht h
  refine ⟨rfl, ⟨s.data.toList⟩, by simpa using hs, fl_one rfl, 0, fun N _ => ?_⟩
  have := VR.str (w := w) (R := bigR N w) s.data.toList
  exact VRs.one this

theorem choose_list {α : Type} {Q : Nat → α → Prop} : ∀ n : Nat, (∀ i, i < n → ∃ a, Q i a) → ∃ l : List α, l.length = n ∧ ∀ (i : Nat) (a : α), l[i]? = some a → Q i a
  | 0, _ => ⟨[], rfl, fun i a h => by simp at h⟩
  | n + 1, h => by
    obtain ⟨l, h1, h2⟩ := choose_list n fun i hi => h i (by omega)
    obtain ⟨a, ha⟩ := h n (by omega)
    refine ⟨l ++ [a], by simp [h1], fun i x hx => ?_⟩
    rcases Nat.lt_or_ge i n with hi | hi
    · rw [List.getElem?_append_left (by omega)] at hx; exact h2 i x hx
    · rw [List.getElem?_append_right (by omega)] at hx
      have : i = n := by
        have := (List.getElem?_eq_some_iff.1 hx).1
        simp at this; omega
      subst this
      rw [h1, Nat.sub_self] at hx
      injection hx with hx; rw [← hx]; exact ha
theorem common {Q : Nat → Nat → Prop} : ∀ n : Nat, (∀ i, i < n → ∃ N0, ∀ N, N0 ≤ N → Q i N) → ∃ N0, ∀ N, N0 ≤ N → ∀ i, i < n → Q i N
  | 0, _ => ⟨0, fun _ _ i h => absurd h (Nat.not_lt_zero i)⟩
  | n + 1, h => by
    obtain ⟨a, ha⟩ := common n fun i hi => h i (by omega)
    obtain ⟨b, hb⟩ := h n (by omega)
    refine ⟨max a b, fun N hN i hi => ?_⟩
    rcases Nat.lt_or_ge i n with h1 | h1
    · exact ha N (by omega) i h1
    · have : i = n := by omega
      rw [this]; exact hb N (by omega)

theorem flat_get {α : Type} [Enc α] (l : List α) {i r : Nat} {a : α} (hi : l[i]? = some a) (hr : r < Enc.w α) : (flat l)[i * Enc.w α + r]? = (Enc.cells a)[r]? := by
  have h1 := flat_sub l (Enc.w α) i 1 rfl
  obtain ⟨hlt, he⟩ := List.getElem?_eq_some_iff.1 hi
  have h2 : (l.drop i).take 1 = [a] := by rw [List.drop_eq_getElem_cons hlt, he]; rfl
  rw [h2, flat_cons, flat_nil, List.append_nil, Nat.one_mul] at h1
  rw [← h1]
  unfold AB.sub
  rw [List.getElem?_take, if_pos hr, List.getElem?_drop]

/-- A slice of them, as an argument. -/
theorem open_slice {H : Type} {enc : TypeId × Value → H} {w : World} {e : TypeId} {α : Type} [Enc α] {wf : α → Prop} {b0 : Nat} {v : Value} {d : DataW H} {ps : List MemPlace}
    (ht : P.underlying t = some (.slice e)) (hc : P.cellsOf e = Enc.w α) (he : Opens P e α wf) (hval : Value.okWide P w .any b0 t v) (h : DataW.Trod enc P w 0 (fun _ => true) true t v d ps) :
    ∃ l : List α, l.length ≤ maxLen ∧ (∀ a ∈ l, wf a) ∧ ∃ N0, ∀ N, N0 ≤ N → VR w (bigR N w) (.sl false (Enc.w α) l.length (flat l)) v := by
  have hv : v = .slice none 0 0 ∨ ∃ a len cap, v = .slice (some a) len cap ∧ w.has P .any b0 a e cap := by
    unfold Value.okWide Cell.okWide Cell.ok at hval
    rw [ht] at hval
    dsimp only at hval
    split at hval <;> simp_all
    exact ⟨_, _, _, ⟨rfl, rfl, rfl⟩, hval.2.2⟩
  obtain ⟨fuel, hf⟩ := h
  rcases hv with rfl | ⟨a, len, cap, rfl, hhas⟩
  · exact ⟨[], Nat.zero_le _, (fun _ h => absurd h List.not_mem_nil), 0, fun N _ => .slnil _ _⟩
  · obtain ⟨_, hsp, row, cells, hsh, _⟩ := hhas
    obtain ⟨b, off, spot⟩ := a
    simp only at hsp hsh
    subst hsp
    have hb : b < w.heap.size := by
      rcases Nat.lt_or_ge b w.heap.size with h | h
      · exact h
      · unfold World.shape? at hsh
        rw [Array.getElem?_eq_none h] at hsh
        cases hsh
    rcases DataW.trod_slice ht hf with ⟨h0, _⟩ | ⟨a, len', cap', elems, rest, n, _, hcs, _, _, hl, hm, hlen, hel, _⟩
    · simp [Value.cells] at h0
    · have hcs' : (a = ⟨b, off, none⟩ ∧ len' = len) ∧ cap' = cap := by
        simp [Value.cells] at hcs
        exact ⟨⟨hcs.1.symm, hcs.2.1.symm⟩, hcs.2.2.symm⟩
      obtain ⟨⟨rfl, rfl⟩, rfl⟩ := hcs'
      have each : ∀ i, i < len' → ∃ x : α × List Value, wf x.1 ∧ Fl (Enc.cells x.1) ∧ w.cells? 0 ((⟨b, off, none⟩ : Addr).add (i * Enc.w α)) (Enc.w α) = some x.2 ∧ ∃ N0, ∀ N, N0 ≤ N → VRs w (bigR N w) (Enc.cells x.1) x.2 := by
        intro i hi
        have h1 := hel i hi
        rw [hc, List.getElem?_eq_getElem (by omega), Option.bind_eq_some_iff] at h1
        obtain ⟨cs, h2, h3⟩ := h1
        obtain ⟨_, x, h4, h5, h6⟩ := he H enc w n cs _ h3
        exact ⟨(x, cs), h4, h5, h2, h6⟩
      obtain ⟨L, hL, hQ⟩ := choose_list len' each
      have hx : ∀ i, i < len' → ∃ x, L[i]? = some x := fun i hi => ⟨L[i]'(by omega), List.getElem?_eq_getElem (by omega)⟩
      obtain ⟨N0, hN0⟩ := common (Q := fun i N => ∀ x, L[i]? = some x → VRs w (bigR N w) (Enc.cells x.1) x.2) len' fun i hi => by
        obtain ⟨x, hx⟩ := hx i hi
        obtain ⟨_, _, _, N0, h⟩ := hQ i x hx
        exact ⟨N0, fun N hN y hy => by rw [hx] at hy; cases hy; exact h N hN⟩
      have hwf : ∀ a ∈ L.map (·.1), wf a ∧ Fl (Enc.cells a) := by
        intro a ha
        obtain ⟨x, hx, rfl⟩ := List.mem_map.1 ha
        obtain ⟨i, hi⟩ := List.getElem?_of_mem hx
        have := hQ i x hi
        exact ⟨this.1, this.2.1⟩
      have hget : ∀ (j : Nat) (c : AV), (flat (L.map (·.1)))[j]? = some c → ∃ v, w.cell? ⟨b, off + j, none⟩ = some v ∧ ∀ N, N0 ≤ N → VR w (bigR N w) c v := by
        intro j c hj
        have hw : 0 < Enc.w α := Enc.pos
        have hjl := (List.getElem?_eq_some_iff.1 hj).1
        rw [flat_len, List.length_map, hL] at hjl
        have hi : j / Enc.w α < len' := Nat.div_lt_of_lt_mul (by rw [Nat.mul_comm]; exact hjl)
        have hr : j % Enc.w α < Enc.w α := Nat.mod_lt _ hw
        have hje : j = j / Enc.w α * Enc.w α + j % Enc.w α := by rw [Nat.mul_comm]; exact (Nat.div_add_mod _ _).symm
        obtain ⟨x, hx⟩ := hx _ hi
        have h1 := flat_get (L.map (·.1)) (i := j / Enc.w α) (a := x.1) (by rw [List.getElem?_map, hx]; rfl) hr
        rw [← hje, hj] at h1
        obtain ⟨_, _, h2, _⟩ := hQ _ x hx
        obtain ⟨_, h3, h4⟩ := World.cells?_some h2
        have h5 := h4 _ hr
        rw [add_plain, add_plain, Nat.add_assoc, ← hje] at h5
        refine ⟨x.2[j % Enc.w α]'(by omega), by rw [h5, List.getElem?_eq_getElem], fun N hN => ?_⟩
        exact (hN0 N hN _ hi x hx).2 _ _ _ h1.symm (List.getElem?_eq_getElem _)
      refine ⟨L.map (·.1), by rw [List.length_map, hL]; omega, fun a ha => (hwf a ha).1, max N0 (off + len' * Enc.w α), fun N hN => ?_⟩
      rw [List.length_map, hL]
      refine .sl false (Enc.w α) len' _ b off cap' (fun j => (w.cell? ⟨b, off + j, none⟩).getD default) ?_ ?_ ?_ hl ?_ ?_
      · intro c hcm
        unfold flat at hcm
        obtain ⟨l, hl, hcl⟩ := List.mem_flatten.1 hcm
        obtain ⟨a, ha, rfl⟩ := List.mem_map.1 hl
        exact (hwf a ha).2 c hcl
      · rw [flat_len, List.length_map, hL]
      · rw [flat_len, List.length_map, hL]
        unfold bigR
        rw [if_pos hb]; omega
      · intro j c hj
        obtain ⟨v, h1, _⟩ := hget j c hj
        rw [h1]; rfl
      · intro j c hj
        obtain ⟨v, h1, h2⟩ := hget j c hj
        simp only [h1, Option.getD_some]; exact h2 N (by omega)
end
end Go.AB
end

section
namespace Go.AB
open Go Go.RowKit Go.ChangeShapes Go.WideShapes

section
variable {P : Program}

theorem trodAll_below {H : Type} {enc : TypeId × Value → H} (hl : laidOutB P = true) {W W' : World} (hb : Below W.heap.size W W') :
    ∀ {ts : List TypeId} {vs : List Value} {ds : List (DataW H)} {ps : List MemPlace}, (∀ t ∈ ts, P.readableRec t = true ∧ t < P.types.size) → DataW.TrodAll enc P W 0 (fun _ => true) true ts vs ds ps →
      DataW.TrodAll enc P W' 0 (fun b => decide (b < W.heap.size)) true ts vs ds ps
  | [], [], [], _, _, h => h
  | t :: ts, v :: vs, d :: ds, _, hr, h => by
    have hlt := h.lt
    obtain ⟨p, q, h1, h2, rfl⟩ := h
    have ht := hr t List.mem_cons_self
    exact ⟨p, q, Below.trod hl ht.1 ht.2 h1 hb fun x hx => hlt x (List.mem_append_left _ hx), trodAll_below hl hb (fun t ht => hr t (List.mem_cons_of_mem _ ht)) h2, rfl⟩
  | [], _ :: _, _, _, _, h => h.elim
  | [], [], _ :: _, _, _, h => h.elim
  | _ :: _, [], _, _, _, h => h.elim
  | _ :: _, _ :: _, [], _, _, h => h.elim

/-- What a law's row asks, once its call returns true and turns nothing that was there. -/
theorem law_post {H : Type} {enc : TypeId × Value → H} {fn : Func} {s : ChangeSpec} {f : FuncId} {W : World} {args : Array Value} {ds gs : List (DataW H)} {before : List MemPlace} {tb : TypeId}
    (hvars : s.vars = []) (hres : fn.resultTypes = #[tb]) (htb : P.underlying tb = some .bool) (hl : laidOutB P = true) (hr : ∀ t ∈ fn.params.toList, P.readableRec t = true ∧ t < P.types.size)
    (hspec : ∀ ds : List (DataW H), ds.length = fn.params.toList.length → s.fn H ds = { results := [.lit (.bool true)], args := ds })
    (hW : DataW.Whole enc P fn.params.toList s.vars false W args.toList ds gs before)
    (hc : Calls P f args W fun e w' => e = .returned (.bool true) ∧ Below W.heap.size W w') :
    Calls P f args W fun e W' => ∃ v, e = .returned v ∧ s.post enc P fn false true false false W args v W' := by
  refine hc.mono fun e W' ⟨he, hb⟩ => ⟨.bool true, he, ?_⟩
  have hW' := hW
  obtain ⟨p, q, hA, hV, rfl, hfz, hnd⟩ := hW
  rw [hvars] at hV
  obtain ⟨rfl, rfl⟩ := trodVars_none hV
  have hs := hspec ds (trodAll_length hA).2
  refine ⟨ds, [], _, [], p, [], hW', ?_, ?_, ?_, ?_, fun h => by cases h⟩
  · rw [List.append_nil, hs, hres]
    exact trodAll_mk1 (shut_bool htb true)
  · rw [List.append_nil, hs]
    exact trodAll_below hl hb hr hA
  · rw [List.append_nil, hs, hvars]
    exact rfl
  · exact World.keptBut_mono (fun p hp => hp.elim) (hb.frame fun _ => False)

/-! Products. -/
def OpensF (P : Program) (fs : List (TypeId × Nat)) (o : Nat) {α : Type} (n : Nat) (C : α → List AV) (wf : α → Prop) : Prop :=
  ∀ (H : Type) (enc : TypeId × Value → H) (w : World) (fuel : Nat) (cs : List Value), (∀ f ∈ fs, ∃ x, DataW.trod enc P w 0 (fun _ => true) true fuel f.1 ((cs.drop f.2).take (P.cellsOf f.1)) = some x) →
    ∃ a : α, wf a ∧ Fl (C a) ∧ ∃ N0, ∀ N, N0 ≤ N → VRs w (bigR N w) (C a) ((cs.drop o).take n)

theorem opensF_nil {o : Nat} : OpensF P [] o 0 (fun _ : Unit => []) fun _ => True :=
  fun _ _ _ _ _ _ => ⟨(), trivial, (fun _ h => absurd h List.not_mem_nil), 0, fun _ _ => ⟨by simp, fun j a v h => by simp at h⟩⟩
theorem opensF_cons {t : TypeId} {o n1 n2 : Nat} {fs : List (TypeId × Nat)} {α β : Type} {C1 : α → List AV} {C2 : β → List AV} {wf1 : α → Prop} {wf2 : β → Prop}
    (h1 : OpensC P t n1 C1 wf1) (hc : P.cellsOf t = n1) (h2 : OpensF P fs (o + n1) n2 C2 wf2) : OpensF P ((t, o) :: fs) o (n1 + n2) (fun p : α × β => C1 p.1 ++ C2 p.2) fun p => wf1 p.1 ∧ wf2 p.2 := by
  intro H enc w fuel cs h
  obtain ⟨x, hx⟩ := h _ List.mem_cons_self
  obtain ⟨_, a, ha, hfa, N1, hN1⟩ := h1 H enc w fuel _ x hx
  obtain ⟨b, hb, hfb, N2, hN2⟩ := h2 H enc w fuel cs fun f hf => h f (List.mem_cons_of_mem _ hf)
  refine ⟨(a, b), ⟨ha, hb⟩, fun c hc => (List.mem_append.1 hc).elim (hfa c) (hfb c), max N1 N2, fun N hN => ?_⟩
  rw [List.take_add, List.drop_drop]
  refine VRs.append ?_ (hN2 N (by omega))
  rw [← hc]
  exact hN1 N (by omega)
theorem OpensC.map {t : TypeId} {n : Nat} {α β : Type} {C : α → List AV} {wf : α → Prop} (h : OpensC P t n C wf) {C' : β → List AV} {wf' : β → Prop} (g : α → β) (hC : ∀ a, C' (g a) = C a) (hw : ∀ a, wf a → wf' (g a)) : OpensC P t n C' wf' := by
  intro H enc w fuel cs x hx
  obtain ⟨h1, a, h2, h3, N0, h4⟩ := h H enc w fuel cs x hx
  exact ⟨h1, g a, hw a h2, by rw [hC]; exact h3, N0, by rw [hC]; exact h4⟩
theorem opens_struct {t : TypeId} {fs : Array Field} {n : Nat} {α : Type} {C : α → List AV} {wf : α → Prop} (ht : P.underlying t = some (.struct fs)) (hn : P.cellsOf t = n)
    (hf : OpensF P (fs.toList.map fun f => (f.type, f.offset)) 0 n C wf) : OpensC P t n C wf := by
  intro H enc w fuel cs x h
  obtain ⟨xs, m, _, _, hl, hxl, hel⟩ := DataW.trod_struct ht h
  obtain ⟨a, ha, hfa, N0, hN⟩ := hf H enc w m cs fun f hf => by
    obtain ⟨g, hg, rfl⟩ := List.mem_map.1 hf
    obtain ⟨i, hi⟩ := List.getElem?_of_mem hg
    have h1 := hel i g (by rw [← Array.getElem?_toList]; exact hi)
    have hi' := (List.getElem?_eq_some_iff.1 hi).1
    rw [List.getElem?_eq_getElem (by simpa [hxl] using hi')] at h1
    exact ⟨_, h1⟩
  refine ⟨by rw [hl, hn], a, ha, hfa, N0, fun N h => ?_⟩
  have := hN N h
  rwa [List.drop_zero, List.take_of_length_le (by omega)] at this
theorem opens_array {t e : TypeId} {m k n : Nat} {α : Type} {C : α → List AV} {wf : α → Prop} (ht : P.underlying t = some (.array m e)) (hn : P.cellsOf t = n) (hk : P.cellsOf e = k)
    (hf : OpensF P ((List.range m).map fun i => (e, i * k)) 0 n C wf) : OpensC P t n C wf := by
  intro H enc w fuel cs x h
  obtain ⟨xs, q, _, _, hl, hxl, hel⟩ := DataW.trod_array ht h
  obtain ⟨a, ha, hfa, N0, hN⟩ := hf H enc w q cs fun f hf => by
    obtain ⟨i, hi, rfl⟩ := List.mem_map.1 hf
    have hi' := List.mem_range.1 hi
    have h1 := hel i hi'
    rw [List.getElem?_eq_getElem (by omega), hk] at h1
    rw [hk]
    exact ⟨_, h1⟩
  refine ⟨by rw [hl, hn], a, ha, hfa, N0, fun N h => ?_⟩
  have := hN N h
  rwa [List.drop_zero, List.take_of_length_le (by omega)] at this

/-! Arguments. -/
section
variable {H : Type} {enc : TypeId × Value → H} {w : World} {t : TypeId} {α : Type} [Enc α] {wf : α → Prop} {b0 : Nat} {v : Value} {d : DataW H} {ps : List MemPlace}
theorem open_agg (hs : (∃ fs, P.underlying t = some (.struct fs)) ∨ ∃ n e, P.underlying t = some (.array n e)) (he : Opens P t α wf) (hval : Value.okWide P w .any b0 t v) (h : DataW.Trod enc P w 0 (fun _ => true) true t v d ps) :
    ∃ a : α, wf a ∧ ∃ N0, ∀ N, N0 ≤ N → VR w (bigR N w) (.agg (Enc.cells a)) v := by
  have hv : ∃ cs, v = .agg cs := by
    unfold Value.okWide at hval
    rcases hs with ⟨fs, hs⟩ | ⟨n, e, hs⟩ <;> rw [hs] at hval <;> obtain ⟨cs, rfl, _⟩ := hval <;> exact ⟨cs, rfl⟩
  obtain ⟨cs, rfl⟩ := hv
  obtain ⟨fuel, hf⟩ := h
  obtain ⟨_, a, ha, hfl, N0, hN⟩ := he H enc w fuel _ _ hf
  refine ⟨a, ha, N0, fun N h => ?_⟩
  have h1 := hN N h
  exact .agg _ _ hfl (by simpa [Value.cells] using h1.1) fun j c v h2 h3 => h1.2 j c v h2 (by simpa [Value.cells] using h3)
theorem open_plain (hs : ∀ cs, v ≠ .agg cs) (he : Opens P t α wf) (h : DataW.Trod enc P w 0 (fun _ => true) true t v d ps) :
    ∃ a : α, wf a ∧ ∃ N0, ∀ N, N0 ≤ N → VRs w (bigR N w) (Enc.cells a) [v] := by
  obtain ⟨fuel, hf⟩ := h
  obtain ⟨_, a, ha, _, N0, hN⟩ := he H enc w fuel _ _ hf
  refine ⟨a, ha, N0, fun N h => ?_⟩
  have h1 := hN N h
  have : v.cells.toList = [v] := by
    cases v <;> first | rfl | exact absurd rfl (hs _)
  rwa [this] at h1
theorem VRs.head {R : Nat → Nat} {a : AV} (h : VRs w R [a] [v]) : VR w R a v := h.2 0 a v rfl rfl
theorem open_i64 (ht : P.underlying t = some (.int .i64)) (hval : Value.okWide P w .any b0 t v) (h : DataW.Trod enc P w 0 (fun _ => true) true t v d ps) :
    ∃ n : Int, (-9223372036854775808 ≤ n ∧ n ≤ 9223372036854775807) ∧ ∃ N0, ∀ N, N0 ≤ N → VR w (bigR N w) (.int .i64 n) v := by
  obtain ⟨n, rfl, _⟩ := open_int ht hval h
  obtain ⟨a, ha, N0, hN⟩ := open_plain (fun _ h => by cases h) (opens_int ht) h
  exact ⟨a, ha, N0, fun N h => (hN N h).head⟩
theorem open_byte (ht : P.underlying t = some (.int .u8)) (hval : Value.okWide P w .any b0 t v) (h : DataW.Trod enc P w 0 (fun _ => true) true t v d ps) :
    ∃ n : UInt8, True ∧ ∃ N0, ∀ N, N0 ≤ N → VR w (bigR N w) (.int .u8 n.toNat) v := by
  obtain ⟨n, rfl, _⟩ := open_int ht hval h
  obtain ⟨a, ha, N0, hN⟩ := open_plain (fun _ h => by cases h) (opens_u8 ht) h
  exact ⟨a, ha, N0, fun N h => (hN N h).head⟩
theorem open_w32 (ht : P.underlying t = some (.int .u32)) (hval : Value.okWide P w .any b0 t v) (h : DataW.Trod enc P w 0 (fun _ => true) true t v d ps) :
    ∃ n : UInt32, True ∧ ∃ N0, ∀ N, N0 ≤ N → VR w (bigR N w) (.int .u32 n.toNat) v := by
  obtain ⟨n, rfl, _⟩ := open_int ht hval h
  obtain ⟨a, ha, N0, hN⟩ := open_plain (fun _ h => by cases h) (opens_u32 ht) h
  exact ⟨a, ha, N0, fun N h => (hN N h).head⟩
theorem open_w64 (ht : P.underlying t = some (.int .u64)) (hval : Value.okWide P w .any b0 t v) (h : DataW.Trod enc P w 0 (fun _ => true) true t v d ps) :
    ∃ n : UInt64, True ∧ ∃ N0, ∀ N, N0 ≤ N → VR w (bigR N w) (.int .u64 n.toNat) v := by
  obtain ⟨n, rfl, _⟩ := open_int ht hval h
  obtain ⟨a, ha, N0, hN⟩ := open_plain (fun _ h => by cases h) (opens_u64 ht) h
  exact ⟨a, ha, N0, fun N h => (hN N h).head⟩
theorem open_truth (ht : P.underlying t = some .bool) (hval : Value.okWide P w .any b0 t v) (h : DataW.Trod enc P w 0 (fun _ => true) true t v d ps) :
    ∃ b : Bool, True ∧ ∃ N0, ∀ N, N0 ≤ N → VR w (bigR N w) (.bool b) v := by
  obtain ⟨n, rfl, _⟩ := open_bool ht hval h
  exact ⟨n, trivial, 0, fun N _ => .bool n⟩
theorem open_text (ht : P.underlying t = some .string) (hval : Value.okWide P w .any b0 t v) (h : DataW.Trod enc P w 0 (fun _ => true) true t v d ps) :
    ∃ s : Str, s.b.length ≤ maxLen ∧ ∃ N0, ∀ N, N0 ≤ N → VR w (bigR N w) (.str s.b) v := by
  obtain ⟨n, rfl, _⟩ := Go.ChangeMaps.open_string ht hval h
  obtain ⟨a, ha, N0, hN⟩ := open_plain (fun _ h => by cases h) (opens_str ht) h
  exact ⟨a, ha, N0, fun N h => (hN N h).head⟩
end

theorem args1 {w : World} {R : Nat → Nat} {a0 : AV} {v0 : Value} (h0 : VR w R a0 v0) : ArgsR w R [a0] #[v0] :=
  ⟨rfl, fun j a v h1 h2 => by match j, h1, h2 with | 0, h1, h2 => (cases h1; cases h2; exact h0)⟩
theorem args2 {w : World} {R : Nat → Nat} {a0 a1 : AV} {v0 v1 : Value} (h0 : VR w R a0 v0) (h1 : VR w R a1 v1) : ArgsR w R [a0, a1] #[v0, v1] :=
  ⟨rfl, fun j a v k1 k2 => by match j, k1, k2 with | 0, k1, k2 => (cases k1; cases k2; exact h0) | 1, k1, k2 => (cases k1; cases k2; exact h1)⟩
theorem args3 {w : World} {R : Nat → Nat} {a0 a1 a2 : AV} {v0 v1 v2 : Value} (h0 : VR w R a0 v0) (h1 : VR w R a1 v1) (h2 : VR w R a2 v2) : ArgsR w R [a0, a1, a2] #[v0, v1, v2] :=
  ⟨rfl, fun j a v k1 k2 => by match j, k1, k2 with | 0, k1, k2 => (cases k1; cases k2; exact h0) | 1, k1, k2 => (cases k1; cases k2; exact h1) | 2, k1, k2 => (cases k1; cases k2; exact h2)⟩
end
end Go.AB
end

section
namespace Go.AB
open Go

def fieldsAre (P : Program) (t : TypeId) (L : List (TypeId × Nat)) : Bool := match P.underlying t with
  | some (.struct fs) => fs.toList.map (fun f => (f.type, f.offset)) == L
  | _ => false
theorem opens_fields {P : Program} {t : TypeId} {L : List (TypeId × Nat)} {n : Nat} {α : Type} {C : α → List AV} {wf : α → Prop} (hs : fieldsAre P t L = true) (hn : P.cellsOf t = n) (hf : OpensF P L 0 n C wf) : OpensC P t n C wf := by
  unfold fieldsAre at hs
  split at hs
  · rename_i fs ht
    have he := eq_of_beq hs
    exact opens_struct ht hn (by rw [he]; exact hf)
  · cases hs
end Go.AB
end

section
namespace Go.AB
open Go Go.RowKit Go.ChangeShapes Go.WideShapes

/-- What cells of a Go type read as, up to a depth. -/
def OpensB (K : Nat) (P : Program) (t : TypeId) {α : Type} (n : Nat) (C : α → List AV) (wf : α → Prop) : Prop :=
  ∀ (H : Type) (enc : TypeId × Value → H) (w : World) (fuel : Nat) (cs : List Value) (x : DataW H × List MemPlace), fuel ≤ K → DataW.trod enc P w 0 (fun _ => true) true fuel t cs = some x →
    cs.length = n ∧ ∃ a : α, wf a ∧ Fl (C a) ∧ ∃ N0, ∀ N, N0 ≤ N → VRs w (bigR N w) (C a) cs
def OpensFB (K : Nat) (P : Program) (fs : List (TypeId × Nat)) (o : Nat) {α : Type} (n : Nat) (C : α → List AV) (wf : α → Prop) : Prop :=
  ∀ (H : Type) (enc : TypeId × Value → H) (w : World) (fuel : Nat) (cs : List Value), fuel ≤ K → (∀ f ∈ fs, ∃ x, DataW.trod enc P w 0 (fun _ => true) true fuel f.1 ((cs.drop f.2).take (P.cellsOf f.1)) = some x) →
    ∃ a : α, wf a ∧ Fl (C a) ∧ ∃ N0, ∀ N, N0 ≤ N → VRs w (bigR N w) (C a) ((cs.drop o).take n)

section
variable {P : Program} {t : TypeId}

theorem OpensC.b {n : Nat} {α : Type} {C : α → List AV} {wf : α → Prop} (h : OpensC P t n C wf) (K : Nat) : OpensB K P t n C wf := fun H enc w fuel cs x _ hx => h H enc w fuel cs x hx
theorem OpensB.all {n : Nat} {α : Type} {C : α → List AV} {wf : α → Prop} (h : ∀ K, OpensB K P t n C wf) : OpensC P t n C wf := fun H enc w fuel cs x hx => h fuel H enc w fuel cs x (Nat.le_refl _) hx
theorem OpensB.le {n : Nat} {α : Type} {C : α → List AV} {wf : α → Prop} {K K' : Nat} (h : OpensB K P t n C wf) (hk : K' ≤ K) : OpensB K' P t n C wf := fun H enc w fuel cs x hf hx => h H enc w fuel cs x (Nat.le_trans hf hk) hx
theorem OpensB.zero {n : Nat} {α : Type} {C : α → List AV} {wf : α → Prop} : OpensB 0 P t n C wf := fun H enc w fuel cs x hf hx => by
  have : fuel = 0 := by omega
  subst this
  simp [DataW.trod] at hx
theorem OpensB.map {K n : Nat} {α β : Type} {C : α → List AV} {wf : α → Prop} (h : OpensB K P t n C wf) {C' : β → List AV} {wf' : β → Prop} (g : α → β) (hC : ∀ a, C' (g a) = C a) (hw : ∀ a, wf a → wf' (g a)) : OpensB K P t n C' wf' := by
  intro H enc w fuel cs x hf hx
  obtain ⟨h1, a, h2, h3, N0, h4⟩ := h H enc w fuel cs x hf hx
  exact ⟨h1, g a, hw a h2, by rw [hC]; exact h3, N0, by rw [hC]; exact h4⟩

theorem opensFB_nil {K o : Nat} : OpensFB K P [] o 0 (fun _ : Unit => []) fun _ => True :=
  fun _ _ _ _ _ _ _ => ⟨(), trivial, (fun _ h => absurd h List.not_mem_nil), 0, fun _ _ => ⟨by simp, fun j a v h => by simp at h⟩⟩
theorem opensFB_cons {K : Nat} {t : TypeId} {o n1 n2 : Nat} {fs : List (TypeId × Nat)} {α β : Type} {C1 : α → List AV} {C2 : β → List AV} {wf1 : α → Prop} {wf2 : β → Prop}
    (h1 : OpensB K P t n1 C1 wf1) (hc : P.cellsOf t = n1) (h2 : OpensFB K P fs (o + n1) n2 C2 wf2) : OpensFB K P ((t, o) :: fs) o (n1 + n2) (fun p : α × β => C1 p.1 ++ C2 p.2) fun p => wf1 p.1 ∧ wf2 p.2 := by
  intro H enc w fuel cs hk h
  obtain ⟨x, hx⟩ := h _ List.mem_cons_self
  obtain ⟨_, a, ha, hfa, N1, hN1⟩ := h1 H enc w fuel _ x hk hx
  obtain ⟨b, hb, hfb, N2, hN2⟩ := h2 H enc w fuel cs hk fun f hf => h f (List.mem_cons_of_mem _ hf)
  refine ⟨(a, b), ⟨ha, hb⟩, fun c hc => (List.mem_append.1 hc).elim (hfa c) (hfb c), max N1 N2, fun N hN => ?_⟩
  rw [List.take_add, List.drop_drop]
  refine VRs.append ?_ (hN2 N (by omega))
  rw [← hc]
  exact hN1 N (by omega)

theorem opens_fieldsB {K : Nat} {L : List (TypeId × Nat)} {n : Nat} {α : Type} {C : α → List AV} {wf : α → Prop} (hs : fieldsAre P t L = true) (hn : P.cellsOf t = n) (hf : OpensFB K P L 0 n C wf) : OpensB (K + 1) P t n C wf := by
  unfold fieldsAre at hs
  split at hs
  · rename_i fs ht
    have he := eq_of_beq hs
    subst he
    intro H enc w fuel cs x hk h
    obtain ⟨xs, m, rfl, _, hl, hxl, hel⟩ := DataW.trod_struct ht h
    obtain ⟨a, ha, hfa, N0, hN⟩ := hf H enc w m cs (by omega) fun f hf => by
      obtain ⟨g, hg, rfl⟩ := List.mem_map.1 hf
      obtain ⟨i, hi⟩ := List.getElem?_of_mem hg
      have h1 := hel i g (by rw [← Array.getElem?_toList]; exact hi)
      have hi' := (List.getElem?_eq_some_iff.1 hi).1
      rw [List.getElem?_eq_getElem (by simpa [hxl] using hi')] at h1
      exact ⟨_, h1⟩
    refine ⟨by rw [hl, hn], a, ha, hfa, N0, fun N h => ?_⟩
    have := hN N h
    rwa [List.drop_zero, List.take_of_length_le (by omega)] at this
  · cases hs

/-- A slice of them, as a cell. -/
theorem slice_cell {w : World} {α : Type} [Enc α] {wf : α → Prop} {a : Addr} {len cap : Nat} (hl : len ≤ cap) (hm : cap ≤ maxLen)
    (each : ∀ i, i < len → ∃ x : α × List Value, wf x.1 ∧ Fl (Enc.cells x.1) ∧ w.cells? 0 (a.add (i * Enc.w α)) (Enc.w α) = some x.2 ∧ ∃ N0, ∀ N, N0 ≤ N → VRs w (bigR N w) (Enc.cells x.1) x.2) :
    ∃ l : List α, (l.length ≤ maxLen ∧ ∀ a ∈ l, wf a) ∧ Fl [.sl false (Enc.w α) l.length (flat l)] ∧ ∃ N0, ∀ N, N0 ≤ N → VRs w (bigR N w) [.sl false (Enc.w α) l.length (flat l)] [.slice (some a) len cap] := by
  have hw : 0 < Enc.w α := Enc.pos
  rcases Nat.eq_zero_or_pos len with h0 | h0
  · subst h0
    exact ⟨[], ⟨Nat.zero_le _, fun _ h => absurd h List.not_mem_nil⟩, fl_one rfl, 0, fun N _ => .one (.sle _ _ _)⟩
  obtain ⟨b, off, spot⟩ := a
  have hplain : spot = none ∧ b < w.heap.size := by
    obtain ⟨x, _, _, h2, _⟩ := each 0 h0
    obtain ⟨_, h3, h4⟩ := World.cells?_some h2
    have h5 := h4 0 hw
    have hxl : 0 < x.2.length := by omega
    rw [List.getElem?_eq_getElem hxl] at h5
    unfold World.cell? at h5
    have e1 : (((⟨b, off, spot⟩ : Addr).add (0 * Enc.w α)).add 0).block = b := by
      unfold Addr.add; repeat' split
      all_goals rfl
    have e2 : (((⟨b, off, spot⟩ : Addr).add (0 * Enc.w α)).add 0).spot.isSome = spot.isSome := by
      cases spot with
      | none => unfold Addr.add; repeat' split
                all_goals simp_all
      | some q => unfold Addr.add; repeat' split
                  all_goals simp_all
    rw [e1, e2] at h5
    split at h5
    · rename_i hh
      refine ⟨?_, (Array.getElem?_eq_some_iff.1 hh).1⟩
      cases spot with
      | none => rfl
      | some q => simp at h5
    · cases h5
  obtain ⟨rfl, hb⟩ := hplain
  obtain ⟨L, hL, hQ⟩ := choose_list len each
  have hx : ∀ i, i < len → ∃ x, L[i]? = some x := fun i hi => ⟨L[i]'(by omega), List.getElem?_eq_getElem (by omega)⟩
  obtain ⟨N0, hN0⟩ := common (Q := fun i N => ∀ x, L[i]? = some x → VRs w (bigR N w) (Enc.cells x.1) x.2) len fun i hi => by
    obtain ⟨x, hx⟩ := hx i hi
    obtain ⟨_, _, _, N0, h⟩ := hQ i x hx
    exact ⟨N0, fun N hN y hy => by rw [hx] at hy; cases hy; exact h N hN⟩
  have hwf : ∀ a ∈ L.map (·.1), wf a ∧ Fl (Enc.cells a) := by
    intro a ha
    obtain ⟨x, hx, rfl⟩ := List.mem_map.1 ha
    obtain ⟨i, hi⟩ := List.getElem?_of_mem hx
    have := hQ i x hi
    exact ⟨this.1, this.2.1⟩
  have hget : ∀ (j : Nat) (c : AV), (flat (L.map (·.1)))[j]? = some c → ∃ v, w.cell? ⟨b, off + j, none⟩ = some v ∧ ∀ N, N0 ≤ N → VR w (bigR N w) c v := by
    intro j c hj
    have hjl := (List.getElem?_eq_some_iff.1 hj).1
    rw [flat_len, List.length_map, hL] at hjl
    have hi : j / Enc.w α < len := Nat.div_lt_of_lt_mul (by rw [Nat.mul_comm]; exact hjl)
    have hr : j % Enc.w α < Enc.w α := Nat.mod_lt _ hw
    have hje : j = j / Enc.w α * Enc.w α + j % Enc.w α := by rw [Nat.mul_comm]; exact (Nat.div_add_mod _ _).symm
    obtain ⟨x, hx⟩ := hx _ hi
    have h1 := flat_get (L.map (·.1)) (i := j / Enc.w α) (a := x.1) (by rw [List.getElem?_map, hx]; rfl) hr
    rw [← hje, hj] at h1
    obtain ⟨_, _, h2, _⟩ := hQ _ x hx
    obtain ⟨_, h3, h4⟩ := World.cells?_some h2
    have h5 := h4 _ hr
    rw [add_plain, add_plain, Nat.add_assoc, ← hje] at h5
    refine ⟨x.2[j % Enc.w α]'(by omega), by rw [h5, List.getElem?_eq_getElem], fun N hN => ?_⟩
    exact (hN0 N hN _ hi x hx).2 _ _ _ h1.symm (List.getElem?_eq_getElem _)
  refine ⟨L.map (·.1), ⟨by rw [List.length_map, hL]; omega, fun a ha => (hwf a ha).1⟩, fl_one rfl, max N0 (off + len * Enc.w α), fun N hN => .one ?_⟩
  rw [List.length_map, hL]
  refine .sl false (Enc.w α) len _ b off cap (fun j => (w.cell? ⟨b, off + j, none⟩).getD default) ?_ ?_ ?_ hl ?_ ?_
  · intro c hcm
    unfold flat at hcm
    obtain ⟨l, hl, hcl⟩ := List.mem_flatten.1 hcm
    obtain ⟨a, ha, rfl⟩ := List.mem_map.1 hl
    exact (hwf a ha).2 c hcl
  · rw [flat_len, List.length_map, hL]
  · rw [flat_len, List.length_map, hL]
    unfold bigR
    rw [if_pos hb]; omega
  · intro j c hj
    obtain ⟨v, h1, _⟩ := hget j c hj
    rw [h1]; rfl
  · intro j c hj
    obtain ⟨v, h1, h2⟩ := hget j c hj
    simp only [h1, Option.getD_some]; exact h2 N (by omega)

theorem opens_sliceB {K : Nat} {e : TypeId} {α : Type} [Enc α] {wf : α → Prop} (ht : P.underlying t = some (.slice e)) (hc : P.cellsOf e = Enc.w α) (he : OpensB K P e (Enc.w α) (Enc.cells : α → List AV) wf) :
    OpensB (K + 1) P t 1 (fun l : List α => [.sl false (Enc.w α) l.length (flat l)]) fun l => l.length ≤ maxLen ∧ ∀ a ∈ l, wf a := by
  intro H enc w fuel cs x hk h
  rcases DataW.trod_slice ht h with ⟨rfl, _⟩ | ⟨a, len, cap, elems, rest, n, rfl, rfl, _, _, hl, hm, hlen, hel, _⟩
  · exact ⟨rfl, [], ⟨Nat.zero_le _, fun _ h => absurd h List.not_mem_nil⟩, fl_one rfl, 0, fun N _ => .one (.slnil _ _)⟩
  · refine ⟨rfl, slice_cell hl hm fun i hi => ?_⟩
    have h1 := hel i hi
    rw [hc, List.getElem?_eq_getElem (by omega), Option.bind_eq_some_iff] at h1
    obtain ⟨cs, h2, h3⟩ := h1
    obtain ⟨_, x, h4, h5, h6⟩ := he H enc w n cs _ (by omega) h3
    exact ⟨(x, cs), h4, h5, h2, h6⟩
theorem opens_sliceC {e : TypeId} {α : Type} [Enc α] {wf : α → Prop} (ht : P.underlying t = some (.slice e)) (hc : P.cellsOf e = Enc.w α) (he : Opens P e α wf) :
    OpensC P t 1 (fun l : List α => [.sl false (Enc.w α) l.length (flat l)]) fun l => l.length ≤ maxLen ∧ ∀ a ∈ l, wf a :=
  OpensB.all fun K => (opens_sliceB ht hc (OpensC.b he K)).le (Nat.le_succ K)

theorem fieldsAre_ex {L : List (TypeId × Nat)} (hs : fieldsAre P t L = true) : ∃ fs, P.underlying t = some (.struct fs) := by
  unfold fieldsAre at hs
  split at hs
  · rename_i fs ht; exact ⟨fs, ht⟩
  · cases hs
theorem okWide_slice {w : World} {e : TypeId} {b0 : Nat} {v : Value} (ht : P.underlying t = some (.slice e)) (hval : Value.okWide P w .any b0 t v) : ∀ cs, v ≠ .agg cs := by
  intro cs h
  subst h
  unfold Value.okWide Cell.okWide Cell.ok at hval
  rw [ht] at hval
  exact hval
/-- An argument that is a slice. -/
theorem open_row {H : Type} {enc : TypeId × Value → H} {w : World} {e : TypeId} {α : Type} [Enc α] {wf : α → Prop} {v : Value} {d : DataW H} {ps : List MemPlace}
    (ht : P.underlying t = some (.slice e)) (hc : P.cellsOf e = Enc.w α) (he : Opens P e α wf) (h : DataW.Trod enc P w 0 (fun _ => true) true t v d ps) (hv : ∀ cs, v ≠ .agg cs) :
    ∃ l : List α, (l.length ≤ maxLen ∧ ∀ a ∈ l, wf a) ∧ ∃ N0, ∀ N, N0 ≤ N → VR w (bigR N w) (.sl false (Enc.w α) l.length (flat l)) v := by
  obtain ⟨fuel, hf⟩ := h
  obtain ⟨_, l, hl, _, N0, hN⟩ := opens_sliceC ht hc he H enc w fuel _ _ hf
  have hcells : v.cells.toList = [v] := by
    cases v <;> first | rfl | exact absurd rfl (hv _)
  refine ⟨l, hl, N0, fun N h => ?_⟩
  have := hN N h
  rw [hcells] at this
  exact this.head
end
end Go.AB
end

section
set_option linter.unusedSimpArgs false
namespace Go.AB
open Go Go.ChangeShapes Go.WideShapes Go.ChangeAt Go.RowKit Go.Proofs.YtpioecahefokmaaGreat Go.Proofs

inductive wf_api_Value : api_Value → Prop where
  | mk (x : api_Value) (h1 : -9223372036854775808 ≤ x.Kind ∧ x.Kind ≤ 9223372036854775807) (h2 : -9223372036854775808 ≤ x.N ∧ x.N ≤ 9223372036854775807) (h3 : x.S.b.length ≤ maxLen) (h4 : x.L.length ≤ maxLen) (h5 : ∀ v ∈ x.L, wf_api_Value v) : wf_api_Value x
theorem opens_28 : Opens Go.Proofs.Tryz.prog 28 api_Value wf_api_Value := by
  refine OpensB.all fun K => ?_
  induction K using Nat.strongRecOn with | ind K ih =>
  cases K with
  | zero => exact OpensB.zero
  | succ K =>
    have hs : OpensB K Go.Proofs.Tryz.prog 26 1 (fun l : List api_Value => [.sl false 4 l.length (flat l)]) (fun l => l.length ≤ maxLen ∧ ∀ a ∈ l, wf_api_Value a) := by
      cases K with
      | zero => exact OpensB.zero
      | succ k => exact opens_sliceB (by kernel_rfl) (by kernel_rfl) (ih k (by omega))
    exact OpensB.map (opens_fieldsB (L := [(3, 0), (3, 1), (9, 2), (26, 3)]) (by kernel_rfl) (by kernel_rfl) (opensFB_cons ((opens_int (P := Go.Proofs.Tryz.prog) (t := 3) (by kernel_rfl)).b K) (by kernel_rfl) (opensFB_cons ((opens_int (P := Go.Proofs.Tryz.prog) (t := 3) (by kernel_rfl)).b K) (by kernel_rfl) (opensFB_cons ((opens_str (P := Go.Proofs.Tryz.prog) (t := 9) (by kernel_rfl)).b K) (by kernel_rfl) (opensFB_cons hs (by kernel_rfl) opensFB_nil)))))
      (fun p => ⟨p.1, p.2.1, p.2.2.1, p.2.2.2.1⟩) (fun p => by rw [cells_api_Value]; rfl) (fun p h => .mk _ h.1 h.2.1 h.2.2.1 h.2.2.2.1.1 h.2.2.2.1.2)
def wf_api_Object (x : api_Object) : Prop := wf_api_Value x.V ∧ True ∧ x.Data.b.length ≤ maxLen ∧ True
theorem opens_75 : Opens Go.Proofs.Tryz.prog 75 api_Object wf_api_Object :=
  OpensC.map (opens_fields (L := [(28, 0), (4, 4), (9, 5)]) (by kernel_rfl) (by kernel_rfl) (opensF_cons opens_28 (by kernel_rfl) (opensF_cons (opens_bool (P := Go.Proofs.Tryz.prog) (t := 4) (by kernel_rfl)) (by kernel_rfl) (opensF_cons (opens_str (P := Go.Proofs.Tryz.prog) (t := 9) (by kernel_rfl)) (by kernel_rfl) opensF_nil))))
    (fun p => ⟨p.1, p.2.1, p.2.2.1⟩) (fun p => by first | rfl | (simp only [cells_api_Value, cells_api_Object]; rfl)) (fun _ h => h)
theorem opens_22 : OpensC Go.Proofs.Tryz.prog 22 1 (fun l : List api_Object => [.sl false 6 l.length (flat l)]) (fun l => l.length ≤ maxLen ∧ ∀ a ∈ l, wf_api_Object a) := opens_sliceC (by kernel_rfl) (by kernel_rfl) opens_75
def wf_api_Doc (x : api_Doc) : Prop := (x.Objects.length ≤ maxLen ∧ ∀ a ∈ x.Objects, wf_api_Object a) ∧ (-9223372036854775808 ≤ x.Root ∧ x.Root ≤ 9223372036854775807) ∧ True
theorem opens_24 : Opens Go.Proofs.Tryz.prog 24 api_Doc wf_api_Doc :=
  OpensC.map (opens_fields (L := [(22, 0), (3, 1)]) (by kernel_rfl) (by kernel_rfl) (opensF_cons opens_22 (by kernel_rfl) (opensF_cons (opens_int (P := Go.Proofs.Tryz.prog) (t := 3) (by kernel_rfl)) (by kernel_rfl) opensF_nil)))
    (fun p => ⟨p.1, p.2.1⟩) (fun p => by first | rfl | (simp only [cells_api_Value, cells_api_Doc]; rfl)) (fun _ h => h)
theorem opens_25 : OpensC Go.Proofs.Tryz.prog 25 1 (fun l : List Int => [.sl false 1 l.length (flat l)]) (fun l => l.length ≤ maxLen ∧ ∀ a ∈ l, (-9223372036854775808 ≤ a ∧ a ≤ 9223372036854775807)) := opens_sliceC (by kernel_rfl) (by kernel_rfl) (opens_int (P := Go.Proofs.Tryz.prog) (t := 3) (by kernel_rfl))
def wf_ref20_Leaf (x : ref20_Leaf) : Prop := (-9223372036854775808 ≤ x.Page ∧ x.Page ≤ 9223372036854775807) ∧ (x.Path.length ≤ maxLen ∧ ∀ a ∈ x.Path, (-9223372036854775808 ≤ a ∧ a ≤ 9223372036854775807)) ∧ wf_api_Value x.Given ∧ True
theorem opens_30 : Opens Go.Proofs.Tryz.prog 30 ref20_Leaf wf_ref20_Leaf :=
  OpensC.map (opens_fields (L := [(3, 0), (25, 1), (28, 2)]) (by kernel_rfl) (by kernel_rfl) (opensF_cons (opens_int (P := Go.Proofs.Tryz.prog) (t := 3) (by kernel_rfl)) (by kernel_rfl) (opensF_cons opens_25 (by kernel_rfl) (opensF_cons opens_28 (by kernel_rfl) opensF_nil))))
    (fun p => ⟨p.1, p.2.1, p.2.2.1⟩) (fun p => by first | rfl | (simp only [cells_api_Value, cells_ref20_Leaf]; rfl)) (fun _ h => h)
theorem law21_ReachRows_own : ownKnob Tryz.prog.godebug = none := by kernel_rfl
theorem law21_ReachRows_laid : laidOutB Tryz.prog = true := by kernel_rfl
theorem law21_ReachRows_ub : Tryz.prog.underlying 4 = some .bool := by kernel_rfl
set_option maxRecDepth 100000 in
theorem law21_ReachRows_law {H : Type} {enc : TypeId × Value → H} {W : World} {base : Nat} {args : Array Value} {ds gs : List (DataW H)} {before : List MemPlace}
    (hval0 : ∀ (j : Nat) t v, Tryz.f3.params[j]? = some t → args[j]? = some v → Value.okWide Tryz.prog W .any base t v)
    (hW : DataW.Whole enc Tryz.prog Tryz.f3.params.toList Rows.reachRowsSpec.vars false W args.toList ds gs before) :
    Calls Tryz.prog 3 args W fun e w' => e = .returned (.bool true) ∧ Below W.heap.size W w' := by
  obtain ⟨p, q, hA0, hV, rfl, hfz, hnd⟩ := hW
  have hval := hval0
  have hA : DataW.TrodAll enc Tryz.prog W 0 (fun _ => true) true Tryz.f3.params.toList args.toList ds p := hA0
  have hp : Tryz.f3.params = #[24, 30] := by kernel_rfl
  rw [hp] at hA hval
  obtain ⟨v0, v1, d0, d1, p0, p1, rfl, rfl, rfl, h0, h1⟩ := trodAll_two hA
  obtain ⟨x0, w0, N0, k0⟩ := open_agg (.inl (fieldsAre_ex (L := [(22, 0), (3, 1)]) (by kernel_rfl))) opens_24 (hval 0 24 v0 rfl rfl) h0
  obtain ⟨x1, w1, N1, k1⟩ := open_agg (.inl (fieldsAre_ex (L := [(3, 0), (25, 1), (28, 2)]) (by kernel_rfl))) opens_30 (hval 1 30 v1 rfl rfl) h1
  refine law_calls' (max N0 N1) ?_ (args2 (k0 _ (by omega)) (k1 _ (by omega)))
  exact (law21_ReachRows_fe (law21_ReachRows_true x0 x1)).app rfl

end Go.AB
namespace Go.Proofs.YtpioecahefokmaaGreat
open Go.ChangeShapes Go.WideShapes Go.ChangeAt Go.RowKit
set_option maxRecDepth 100000 in
theorem reachRows_lifted (os : Os) (started : os.Started) (H : Type) (enc : TypeId × Value → H) :
    ReturnsInHanded {} Tryz.checked os 3 .any (Rows.reachRowsSpec.pre6 enc Tryz.prog Tryz.f3 Rows.reachRowsRow.domain false) (Rows.reachRowsSpec.post enc Tryz.prog Tryz.f3 false true false false) := by
  refine returnsInHanded_of_change (C := Tryz.checked) AB.law21_ReachRows_own started (by kernel_rfl) Tryz.func3
    (ChangeSpec.witness6 (enc := enc) (C := Tryz.checked) false ⟨#[], #[.agg #[.slice none 0 0, .int .i64 0], .agg #[.int .i64 0, .slice none 0 0, .int .i64 0, .int .i64 0, .string ⟨#[]⟩, .slice none 0 0]], []⟩ 8 (by kernel_rfl) (by kernel_rfl) (by kernel_rfl) (by kernel_rfl)) ?_
  intro W base args ds gs before hval hW _ _
  exact AB.law_post rfl (by kernel_rfl) AB.law21_ReachRows_ub AB.law21_ReachRows_laid (of_decide_eq_true (by kernel_rfl)) (fun ds h => by
    match ds, h with
    | [_, _], _ => rfl) hW (AB.law21_ReachRows_law hval hW)

theorem reachRows_holds : Rows.ReachRowsSaid :=
  OpenClaim.holds_of_wide 3 Tryz.f3 rfl rfl rfl rfl rfl rfl rfl ⟨rfl, rfl, rfl, rfl, rfl⟩ rfl rfl rfl rfl rfl (by kernel_rfl) Tryz.func3 (by kernel_rfl)
    (of_decide_eq_true (by kernel_rfl)) (by unfold Func.isWrapper; first | (rw [if_pos (by decide +kernel)]; kernel_rfl) | (rw [if_neg (by decide +kernel)]; exact ⟨rfl, rfl⟩))
    (fun os started H enc _ => reachRows_lifted os started H enc)
end Go.Proofs.YtpioecahefokmaaGreat
end
