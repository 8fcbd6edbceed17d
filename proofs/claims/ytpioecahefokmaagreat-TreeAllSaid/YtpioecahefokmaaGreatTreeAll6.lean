/- A part of the proof: Tz1, Tz2, Tp1, Tp2, Tp0, Tp3, Tq1, Tq2. -/
import Derived.Test.YtpioecahefokmaaGreatTreeAll5
import Derived.Test.YtpioecahefokmaaGreatTreeAll4
set_option linter.unusedSimpArgs false
set_option linter.unusedVariables false
section
set_option maxRecDepth 4000
namespace Go.AB
open Go
/-- catchword/tree.Find -/
def tree_Find (f_0 : file_File) (p_1 : Int) : Option (tree_Leaf × Int × Int) :=
  bnd (tree_top f_0) fun r1 =>
  if r1.2.2 != 0 then
    some ((tree_Leaf.mk 0 ([] : List Int) (api_Value.mk 0 0 (Str.mk []) ([] : List api_Value))), r1.2.1, r1.2.2)
  else
    if (decide (p_1 < 0)) || (decide (p_1 ≥ r1.1.count_)) then
      some ((tree_Leaf.mk 0 ([] : List Int) (api_Value.mk 0 0 (Str.mk []) ([] : List api_Value))), 0, 25)
    else
      bnd (value_DictOf ([] : List api_Value)) fun r2 =>
      jnS (
        bndS (
          iter (fun ((p9, x10, path11, given12, t13) : Int × tree_node × (List Int) × api_Value × Int) =>
            if decide (t13 < 64) then
              jnS (
                need ((path11.length + [x10.n_].length) * 8 ≤ room) <|
                bnd (tree_give given12 x10.v_) fun r31 =>
                if x10.count_ == (x10.kids_.length : Int) then
                  need (0 ≤ p9 ∧ p9 < x10.kids_.length) <|
                  bnd (file_File_Get f_0 (ix x10.kids_ p9)) fun r32 =>
                  if r32.2.2 != 0 then
                    some (.inr ((tree_Leaf.mk 0 ([] : List Int) (api_Value.mk 0 0 (Str.mk []) ([] : List api_Value))), r32.2.1, r32.2.2))
                  else
                    bnd (tree_Page r32.1) fun r33 =>
                    if r33 then
                      bnd (tree_leaf (ix x10.kids_ p9) r32.1.V (path11 ++ [x10.n_]) r31) fun r34 =>
                      some (.inr (r34, (0 : Int), (0 : Int)))
                    else
                      bnd (tree_nodeOf (ix x10.kids_ p9) r32.1) fun r35 =>
                      if !r35.2 || (r35.1.count_ != 1) then
                        some (.inr ((tree_Leaf.mk 0 ([] : List Int) (api_Value.mk 0 0 (Str.mk []) ([] : List api_Value))), (0 : Int), (24 : Int)))
                      else
                        some (.inl (0, r35.1, path11 ++ [x10.n_], r31))
                else
                  jnS (
                    bndS (
                      iter (fun ((p49, t50) : Int × Int) =>
                        if decide (t50 < (x10.kids_.length : Int)) then
                          need (0 ≤ t50 ∧ t50 < x10.kids_.length) <|
                          bnd (tree_ask f_0 (ix x10.kids_ t50)) fun r64 =>
                          if r64.2.2 != 0 then
                            some (.inr (.inr (.inr (r64.2.1, r64.2.2))))
                          else
                            if decide (p49 < r64.1.count_) then
                              some (.inr (.inl (p49, r64.1)))
                            else
                              some (.inl (w64 (p49 - r64.1.count_), w64 (t50 + 1)))
                        else
                          some (.inr (.inr (.inl ())))) (p9, 0)) (fun ((p51, x53) : Int × tree_node) =>
                      some (.inr (.inl (p51, x53))))
                    (caseS (fun (_ : Unit) => some (.inl ())) (fun ((t61, t62) : Int × Int) => some (.inr (.inr (t61, t62)))))) (fun (_ : Unit) =>
                    some (.inr ((tree_Leaf.mk 0 ([] : List Int) (api_Value.mk 0 0 (Str.mk []) ([] : List api_Value))), (0 : Int), (24 : Int))))
                  (caseS (fun ((p38, x40) : Int × tree_node) => some (.inl (p38, x40, path11 ++ [x10.n_], r31))) (fun ((t46, t47) : Int × Int) => some (.inr ((tree_Leaf.mk 0 ([] : List Int) (api_Value.mk 0 0 (Str.mk []) ([] : List api_Value))), t46, t47))))) (fun ((p20, x22, path23, given24) : Int × tree_node × (List Int) × api_Value) =>
                some (.inl (p20, x22, path23, given24, w64 (t13 + 1))))
              (fun ((t27, t28, t29) : tree_Leaf × Int × Int) => some (.inr (.inr (t27, t28, t29))))
            else
              some (.inr (.inl ()))) (p_1, r1.1, ([] : List Int), r2, 0)) (fun (_ : Unit) =>
          some (.inl ()))
        (fun ((t16, t17, t18) : tree_Leaf × Int × Int) => some (.inr (t16, t17, t18)))) (fun (_ : Unit) =>
        some ((tree_Leaf.mk 0 ([] : List Int) (api_Value.mk 0 0 (Str.mk []) ([] : List api_Value))), 0, 24))
      (fun ((t5, t6, t7) : tree_Leaf × Int × Int) => some (t5, t6, t7))
def ir_tree_Find : IC :=
 (.seq (.reg none [i1 4 (.allocL [.int .i64 0, .sl true 1 0 [], .int .i64 0, .int .i64 0, .str [], .sl true 4 0 []]),
 i1 5 (.mov false (.c (.int .i64 0))),
 i1 6 (.mov false (.c (.int .i64 0)))] [0, 1, 4])
 (.scope (.seq (.reg none [mv 24 0,
 i1 25 (.call 42 [(.t 24)]),
 i1 23 (.movT (.t 25)),
 i1 26 (.extract (.t 23) 0),
 i1 27 (.extract (.t 23) 1),
 i1 28 (.extract (.t 23) 2),
 i1 7 (.allocL [.int .i64 0, .int .i64 0, .int .i64 0, .str [], .sl true 4 0 [], .sl true 1 0 [], .int .i64 0]),
 i0 (.store 7 (.t 7) (.t 26)),
 mv 8 27,
 mv 9 28] [0, 1, 4, 7, 8, 9])
 (.seq (.block 0 (.seq (.reg none [mv 30 9,
 i1 31 (.bin .neq (.t 30) (.c (.int .i64 0))),
 mv 29 31] [0, 1, 4, 7, 8, 9, 29])
 (.cond (.t 29) (.seq (.reg none [i1 32 (.build [.int .i64 0, .sl true 1 0 [], .int .i64 0, .int .i64 0, .str [], .sl true 4 0 []] []),
 mv 33 8,
 mv 34 9,
 i0 (.store 6 (.t 4) (.t 32)),
 mv 5 33,
 mv 6 34] [4, 5, 6])
 .ret)
 (.seq (.reg none [mv 36 1,
 i1 37 (.bin .lss (.t 36) (.c (.int .i64 0))),
 mv 38 37,
 mvg 39 1 38 false,
 i1g 40 38 false (.fieldAddr 6 (.t 7)),
 i1g 41 38 false (.load 1 false (.t 40)),
 i1g 42 38 false (.bin .geq (.t 39) (.t 41)),
 i1 43 (.pick (.t 38) (.c (.bool true)) (.t 42)),
 mv 35 43] [0, 1, 4, 7, 35])
 (.cond (.t 35) (.seq (.reg none [i1 44 (.build [.int .i64 0, .sl true 1 0 [], .int .i64 0, .int .i64 0, .str [], .sl true 4 0 []] []),
 i0 (.store 6 (.t 4) (.t 44)),
 i1 5 (.mov false (.c (.int .i64 0))),
 i1 6 (.mov false (.c (.int .i64 25)))] [4, 5, 6])
 .ret)
 .skip)))))
 (.seq (.reg none [i1 10 (.mov true (.c (.sl true 1 0 [])))] [0, 1, 4, 7, 10])
 (.seq (.reg none [i1 45 (.call 29 [(.c (.sl true 4 0 []))]),
 i1 11 (.allocL [.int .i64 0, .int .i64 0, .str [], .sl true 4 0 []]),
 i0 (.store 4 (.t 11) (.t 45))] [0, 1, 4, 7, 10, 11])
 (.seq (.label 0)
 (.join [(4, false)] (.seq (.reg none [i1 46 (.mov false (.c (.int .i64 0)))] [0, 1, 4, 7, 10, 11, 46])
 (.block 1 (.loop [(0, false), (1, false), (4, false), (7, false), (10, false), (11, false), (46, false)] (.seq (.reg none [i1 47 (.bin .lss (.t 46) (.c (.int .i64 64)))] [0, 1, 4, 7, 10, 11, 46, 47])
 (.seq (.cond (.t 47) .skip
 (.exit 1))
 (.join [(0, false), (1, false), (4, false), (7, false), (10, false), (11, false), (46, false)] (.block 2 (.seq (.regT [11] 11 [mt 48 10,
 i1 49 (.fieldAddr 0 (.t 7)),
 i1 50 (.load 1 false (.t 49)),
 i1 51 (.buildSl 1 1 [.int .i64 0] [(0, 1, (.t 50))]),
 i1 52 (.append 1 8 (.t 48) (.t 51)),
 i1 53 (.load 4 true (.t 11)),
 i1 54 (.fieldAddr 1 (.t 7)),
 i1 55 (.load 4 true (.t 54)),
 i1 56 (.call 43 [(.t 53), (.t 55)]),
 mt 10 52,
 i0 (.store 4 (.t 11) (.t 56))] [0, 1, 4, 7, 10, 11, 46])
 (.seq (.seq (.reg none [i1 57 (.fieldAddr 6 (.t 7)),
 i1 58 (.load 1 false (.t 57)),
 i1 59 (.fieldAddr 5 (.t 7)),
 i1 60 (.load 1 false (.t 59)),
 i1 61 (.len 0 (.t 60)),
 i1 62 (.bin .eql (.t 58) (.t 61))] [0, 1, 4, 7, 10, 11, 46, 62])
 (.cond (.t 62) (.seq (.reg none [i1 63 (.fieldAddr 5 (.t 7)),
 i1 64 (.load 1 false (.t 63)),
 mv 65 1,
 i1 66 (.indexAddr [.int .i64 0] (.t 64) (.t 65)),
 i1 67 (.load 1 false (.t 66)),
 mv 12 67] [0, 4, 7, 10, 11, 12, 46])
 (.seq (.reg none [mv 69 0,
 mv 70 12,
 i1 71 (.call 33 [(.t 69), (.t 70)]),
 i1 68 (.movT (.t 71)),
 i1 72 (.extract (.t 68) 0),
 i1 73 (.extract (.t 68) 1),
 i1 74 (.extract (.t 68) 2),
 i1 13 (.allocL [.int .i64 0, .int .i64 0, .str [], .sl true 4 0 [], .bool false, .str []]),
 i0 (.store 6 (.t 13) (.t 72)),
 mv 14 73,
 mv 15 74] [0, 4, 7, 10, 11, 12, 13, 14, 15, 46])
 (.seq (.block 3 (.seq (.reg none [mv 76 15,
 i1 77 (.bin .neq (.t 76) (.c (.int .i64 0))),
 mv 75 77] [0, 4, 7, 10, 11, 12, 13, 14, 15, 46, 75])
 (.cond (.t 75) (.seq (.reg none [i1 78 (.build [.int .i64 0, .sl true 1 0 [], .int .i64 0, .int .i64 0, .str [], .sl true 4 0 []] []),
 mv 79 14,
 mv 80 15,
 i0 (.store 6 (.t 4) (.t 78)),
 mv 5 79,
 mv 6 80] [4, 5, 6])
 .ret)
 (.seq (.reg none [i1 82 (.load 6 true (.t 13)),
 i1 83 (.call 44 [(.t 82)]),
 mv 81 83] [0, 4, 7, 10, 11, 12, 13, 46, 81])
 (.cond (.t 81) (.seq (.reg none [mv 84 12,
 i1 85 (.fieldAddr 0 (.t 13)),
 i1 86 (.load 4 true (.t 85)),
 mt 87 10,
 i1 88 (.load 4 true (.t 11)),
 i1 89 (.call 45 [(.t 84), (.t 86), (.t 87), (.t 88)]),
 i0 (.store 6 (.t 4) (.t 89)),
 i1 5 (.mov false (.c (.int .i64 0))),
 i1 6 (.mov false (.c (.int .i64 0)))] [4, 5, 6])
 .ret)
 .skip)))))
 (.seq (.reg none [mv 91 12,
 i1 92 (.load 6 true (.t 13)),
 i1 93 (.call 46 [(.t 91), (.t 92)]),
 i1 90 (.movT (.t 93)),
 i1 94 (.extract (.t 90) 0),
 i1 95 (.extract (.t 90) 1),
 i1 16 (.allocL [.int .i64 0, .int .i64 0, .int .i64 0, .str [], .sl true 4 0 [], .sl true 1 0 [], .int .i64 0]),
 i0 (.store 7 (.t 16) (.t 94)),
 mv 17 95] [0, 4, 7, 10, 11, 16, 17, 46])
 (.seq (.seq (.reg none [mv 96 17,
 i1 97 (.un .not (.t 96)),
 mv 98 97,
 i1g 99 98 false (.fieldAddr 6 (.t 16)),
 i1g 100 98 false (.load 1 false (.t 99)),
 i1g 101 98 false (.bin .neq (.t 100) (.c (.int .i64 1))),
 i1 102 (.pick (.t 98) (.c (.bool true)) (.t 101))] [0, 4, 7, 10, 11, 16, 46, 102])
 (.cond (.t 102) (.seq (.reg none [i1 103 (.build [.int .i64 0, .sl true 1 0 [], .int .i64 0, .int .i64 0, .str [], .sl true 4 0 []] []),
 i0 (.store 6 (.t 4) (.t 103)),
 i1 5 (.mov false (.c (.int .i64 0))),
 i1 6 (.mov false (.c (.int .i64 24)))] [4, 5, 6])
 .ret)
 .skip))
 (.seq (.reg none [i1 104 (.load 7 true (.t 16)),
 i0 (.store 7 (.t 7) (.t 104)),
 i1 1 (.mov false (.c (.int .i64 0)))] [0, 1, 4, 7, 10, 11, 46])
 (.exit 2)))))))
 .skip))
 (.join [(4, false)] (.seq (.reg none [i1 105 (.fieldAddr 5 (.t 7)),
 i1 106 (.load 1 false (.t 105)),
 i1 107 (.len 0 (.t 106)),
 i1 108 (.mov false (.c (.int .i64 0)))] [0, 1, 4, 7, 10, 11, 46, 106, 107, 108])
 (.block 4 (.loop [(0, false), (1, false), (4, false), (7, false), (10, false), (11, false), (46, false), (106, true), (107, false), (108, false)] (.seq (.reg none [i1 109 (.bin .lss (.t 108) (.t 107))] [0, 1, 4, 7, 10, 11, 46, 106, 107, 108, 109])
 (.seq (.cond (.t 109) .skip
 (.exit 4))
 (.seq (.block 5 (.seq (.reg none [i1 110 (.indexAddr [.int .i64 0] (.t 106) (.t 108)),
 i1 111 (.load 1 false (.t 110)),
 mv 19 111] [0, 1, 4, 7, 10, 11, 19, 46, 106, 107, 108])
 (.seq (.reg none [mv 113 0,
 mv 114 19,
 i1 115 (.call 47 [(.t 113), (.t 114)]),
 i1 112 (.movT (.t 115)),
 i1 116 (.extract (.t 112) 0),
 i1 117 (.extract (.t 112) 1),
 i1 118 (.extract (.t 112) 2),
 i1 20 (.allocL [.int .i64 0, .int .i64 0, .int .i64 0, .str [], .sl true 4 0 [], .sl true 1 0 [], .int .i64 0]),
 i0 (.store 7 (.t 20) (.t 116)),
 mv 21 117,
 mv 22 118] [0, 1, 4, 7, 10, 11, 20, 21, 22, 46, 106, 107, 108])
 (.seq (.seq (.reg none [mv 119 22,
 i1 120 (.bin .neq (.t 119) (.c (.int .i64 0)))] [0, 1, 4, 7, 10, 11, 20, 21, 22, 46, 106, 107, 108, 120])
 (.cond (.t 120) (.seq (.reg none [i1 121 (.build [.int .i64 0, .sl true 1 0 [], .int .i64 0, .int .i64 0, .str [], .sl true 4 0 []] []),
 mv 122 21,
 mv 123 22,
 i0 (.store 6 (.t 4) (.t 121)),
 mv 5 122,
 mv 6 123] [4, 5, 6])
 .ret)
 .skip))
 (.seq (.seq (.reg none [mv 124 1,
 i1 125 (.fieldAddr 6 (.t 20)),
 i1 126 (.load 1 false (.t 125)),
 i1 127 (.bin .lss (.t 124) (.t 126))] [0, 1, 4, 7, 10, 11, 20, 46, 106, 107, 108, 127])
 (.cond (.t 127) (.seq (.reg none [i1 128 (.load 7 true (.t 20)),
 i0 (.store 7 (.t 7) (.t 128))] [0, 1, 4, 7, 10, 11, 46])
 (.exit 2))
 .skip))
 (.reg none [mv 129 1,
 i1 130 (.fieldAddr 6 (.t 20)),
 i1 131 (.load 1 false (.t 130)),
 i1 132 (.bin .sub (.t 129) (.t 131)),
 mv 1 132] [0, 1, 4, 7, 10, 11, 46, 106, 107, 108]))))))
 (.reg none [i1 133 (.bin .add (.t 108) (.c (.int .i64 1))),
 mv 108 133] [0, 1, 4, 7, 10, 11, 46, 106, 107, 108])))))))
 (.seq (.reg none [i1 134 (.build [.int .i64 0, .sl true 1 0 [], .int .i64 0, .int .i64 0, .str [], .sl true 4 0 []] []),
 i0 (.store 6 (.t 4) (.t 134)),
 i1 5 (.mov false (.c (.int .i64 0))),
 i1 6 (.mov false (.c (.int .i64 24)))] [4, 5, 6])
 .ret)))))
 (.reg none [i1 135 (.bin .add (.t 46) (.c (.int .i64 1))),
 mv 46 135] [0, 1, 4, 7, 10, 11, 46])))))))
 (.seq (.reg none [i1 136 (.build [.int .i64 0, .sl true 1 0 [], .int .i64 0, .int .i64 0, .str [], .sl true 4 0 []] []),
 i0 (.store 6 (.t 4) (.t 136)),
 i1 5 (.mov false (.c (.int .i64 0))),
 i1 6 (.mov false (.c (.int .i64 24)))] [4, 5, 6])
 .ret)))))))))
def res_tree_Find : List IRes := [⟨4, false, some (6, true)⟩, ⟨5, true, none⟩, ⟨6, true, none⟩]
theorem is_tree_Find : fnIs Go.Proofs.Tryz.prog 17 137 res_tree_Find ir_tree_Find = true := by kernel_rfl
theorem tree_Find_fn {f_0 p_1} {B0 B0_get_ : Nat} {s : Store} {Q : List AV → Store → Prop} (hB0 : s B0 = some (.cells [.int .i64 f_0.root_, .int .i64 f_0.count_, .fn 34 [] [.ref B0_get_ 0]])) (hB0_get_ : s B0_get_ = some (.cells [.sl false 6 f_0.get_.Objects.length (flat f_0.get_.Objects), .int .i64 f_0.get_.Root])) (nB0B0_get_ : B0 ≠ B0_get_) : ok (tree_Find f_0 p_1) (fun r => Q [.agg [.int .i64 r.1.Page, .sl false 1 r.1.Path.length (flat r.1.Path), .int .i64 r.1.Given.Kind, .int .i64 r.1.Given.N, .str r.1.Given.S.b, .sl false 4 r.1.Given.L.length (flat r.1.Given.L)], .int .i64 r.2.1, .int .i64 r.2.2] s) → FN Go.Proofs.Tryz.prog 17 [.ref B0 0, .int .i64 p_1] s Q := by
  have hS : s = ((s.set B0 (.cells [.int .i64 f_0.root_, .int .i64 f_0.count_, .fn 34 [] [.ref B0_get_ 0]])).set B0_get_ (.cells [.sl false 6 f_0.get_.Objects.length (flat f_0.get_.Objects), .int .i64 f_0.get_.Root])) := by simp only [set_eq' hB0, set_eq' hB0_get_]
  rw [hS]
  intro h
  refine FN.of (draw_ok mix) is_tree_Find rfl (Nat.le_of_ble_eq_true rfl) ?_
  revert h
  rw [ir_tree_Find, res_tree_Find, tree_Find]
  repeat' (first
    | with_reducible exact tt_to
    | ((with_reducible refine b_to ?_ ?_); exact rfl)
    | ((with_reducible refine n_to ?_ ?_); exact rfl)
    | with_reducible refine and_to ?_ ?_
    | with_reducible refine im_to ?_
    | with_reducible refine call_to (fun _ (h : tree_top f_0 = some _) => tree_top_fe (B0 := B0) (B0_get_ := B0_get_) (by simp -implicitDefEqProofs only [go_sem, start, startE, resVs, resV, resC, allV, retK, Nat.reduceBEq, Nat.reduceAdd, Nat.reduceMul, Nat.reduceLeDiff, Nat.reduceEqDiff, Nat.reduceBNe, Nat.ble_eq, UInt8.reduceToNat, set_ne nB0B0_get_, set_ne nB0B0_get_.symm, set_comm nB0B0_get_]) (by simp -implicitDefEqProofs only [go_sem, start, startE, resVs, resV, resC, allV, retK, Nat.reduceBEq, Nat.reduceAdd, Nat.reduceMul, Nat.reduceLeDiff, Nat.reduceEqDiff, Nat.reduceBNe, Nat.ble_eq, UInt8.reduceToNat, set_ne nB0B0_get_, set_ne nB0B0_get_.symm, set_comm nB0B0_get_]) nB0B0_get_ h) (fun r1 => ?_)
    | with_reducible refine call_to_q (fun _ (h : tree_top f_0 = some _) => tree_top_fe (B0 := B0) (B0_get_ := B0_get_) (by simp -implicitDefEqProofs only [go_sem, start, startE, resVs, resV, resC, allV, retK, Nat.reduceBEq, Nat.reduceAdd, Nat.reduceMul, Nat.reduceLeDiff, Nat.reduceEqDiff, Nat.reduceBNe, Nat.ble_eq, UInt8.reduceToNat, set_ne nB0B0_get_, set_ne nB0B0_get_.symm, set_comm nB0B0_get_]) (by simp -implicitDefEqProofs only [go_sem, start, startE, resVs, resV, resC, allV, retK, Nat.reduceBEq, Nat.reduceAdd, Nat.reduceMul, Nat.reduceLeDiff, Nat.reduceEqDiff, Nat.reduceBNe, Nat.ble_eq, UInt8.reduceToNat, set_ne nB0B0_get_, set_ne nB0B0_get_.symm, set_comm nB0B0_get_]) nB0B0_get_ h) (fun _ => rfl) (fun r1 => ?_)
    | with_reducible refine call_to (fun _ (h : value_DictOf ([] : List api_Value) = some _) => value_DictOf_fe h) (fun r2 => ?_)
    | with_reducible refine call_to_q (fun _ (h : value_DictOf ([] : List api_Value) = some _) => value_DictOf_fe h) (fun _ => rfl) (fun r2 => ?_)
    | with_reducible refine call_to (fun _ (h : value_DictOf ([] : List api_Value) = some _) => (by refine FE_cast ?_ (value_DictOf_fe h); simp -implicitDefEqProofs only [go_sem, start, startE, resVs, resV, resC, allV, retK, Nat.reduceBEq, Nat.reduceAdd, Nat.reduceMul, Nat.reduceLeDiff, Nat.reduceEqDiff, Nat.reduceBNe, Nat.ble_eq, UInt8.reduceToNat, set_ne nB0B0_get_, set_ne nB0B0_get_.symm, set_comm nB0B0_get_])) (fun r2 => ?_)
    | with_reducible refine call_to_q (fun _ (h : value_DictOf ([] : List api_Value) = some _) => (by refine FE_cast ?_ (value_DictOf_fe h); simp -implicitDefEqProofs only [go_sem, start, startE, resVs, resV, resC, allV, retK, Nat.reduceBEq, Nat.reduceAdd, Nat.reduceMul, Nat.reduceLeDiff, Nat.reduceEqDiff, Nat.reduceBNe, Nat.ble_eq, UInt8.reduceToNat, set_ne nB0B0_get_, set_ne nB0B0_get_.symm, set_comm nB0B0_get_])) (fun _ => rfl) (fun r2 => ?_)
    | with_reducible refine call_to (fun _ (h : tree_give given12 x10.v_ = some _) => tree_give_fe h) (fun r31 => ?_)
    | with_reducible refine call_to_q (fun _ (h : tree_give given12 x10.v_ = some _) => tree_give_fe h) (fun _ => rfl) (fun r31 => ?_)
    | with_reducible refine call_to (fun _ (h : tree_give given12 x10.v_ = some _) => (by refine FE_cast ?_ (tree_give_fe h); simp -implicitDefEqProofs only [go_sem, start, startE, resVs, resV, resC, allV, retK, Nat.reduceBEq, Nat.reduceAdd, Nat.reduceMul, Nat.reduceLeDiff, Nat.reduceEqDiff, Nat.reduceBNe, Nat.ble_eq, UInt8.reduceToNat, set_ne nB0B0_get_, set_ne nB0B0_get_.symm, set_comm nB0B0_get_])) (fun r31 => ?_)
    | with_reducible refine call_to_q (fun _ (h : tree_give given12 x10.v_ = some _) => (by refine FE_cast ?_ (tree_give_fe h); simp -implicitDefEqProofs only [go_sem, start, startE, resVs, resV, resC, allV, retK, Nat.reduceBEq, Nat.reduceAdd, Nat.reduceMul, Nat.reduceLeDiff, Nat.reduceEqDiff, Nat.reduceBNe, Nat.ble_eq, UInt8.reduceToNat, set_ne nB0B0_get_, set_ne nB0B0_get_.symm, set_comm nB0B0_get_])) (fun _ => rfl) (fun r31 => ?_)
    | with_reducible refine call_to (fun _ (h : file_File_Get f_0 (ix x10.kids_ p9) = some _) => file_File_Get_fe (B0 := B0) (B0_get_ := B0_get_) (by simp -implicitDefEqProofs only [go_sem, start, startE, resVs, resV, resC, allV, retK, Nat.reduceBEq, Nat.reduceAdd, Nat.reduceMul, Nat.reduceLeDiff, Nat.reduceEqDiff, Nat.reduceBNe, Nat.ble_eq, UInt8.reduceToNat, set_ne nB0B0_get_, set_ne nB0B0_get_.symm, set_comm nB0B0_get_]) (by simp -implicitDefEqProofs only [go_sem, start, startE, resVs, resV, resC, allV, retK, Nat.reduceBEq, Nat.reduceAdd, Nat.reduceMul, Nat.reduceLeDiff, Nat.reduceEqDiff, Nat.reduceBNe, Nat.ble_eq, UInt8.reduceToNat, set_ne nB0B0_get_, set_ne nB0B0_get_.symm, set_comm nB0B0_get_]) nB0B0_get_ h) (fun r32 => ?_)
    | with_reducible refine call_to_q (fun _ (h : file_File_Get f_0 (ix x10.kids_ p9) = some _) => file_File_Get_fe (B0 := B0) (B0_get_ := B0_get_) (by simp -implicitDefEqProofs only [go_sem, start, startE, resVs, resV, resC, allV, retK, Nat.reduceBEq, Nat.reduceAdd, Nat.reduceMul, Nat.reduceLeDiff, Nat.reduceEqDiff, Nat.reduceBNe, Nat.ble_eq, UInt8.reduceToNat, set_ne nB0B0_get_, set_ne nB0B0_get_.symm, set_comm nB0B0_get_]) (by simp -implicitDefEqProofs only [go_sem, start, startE, resVs, resV, resC, allV, retK, Nat.reduceBEq, Nat.reduceAdd, Nat.reduceMul, Nat.reduceLeDiff, Nat.reduceEqDiff, Nat.reduceBNe, Nat.ble_eq, UInt8.reduceToNat, set_ne nB0B0_get_, set_ne nB0B0_get_.symm, set_comm nB0B0_get_]) nB0B0_get_ h) (fun _ => rfl) (fun r32 => ?_)
    | with_reducible refine call_to (fun _ (h : tree_Page r32.1 = some _) => tree_Page_fe h) (fun r33 => ?_)
    | with_reducible refine call_to_q (fun _ (h : tree_Page r32.1 = some _) => tree_Page_fe h) (fun _ => rfl) (fun r33 => ?_)
    | with_reducible refine call_to (fun _ (h : tree_Page r32.1 = some _) => (by refine FE_cast ?_ (tree_Page_fe h); simp -implicitDefEqProofs only [go_sem, start, startE, resVs, resV, resC, allV, retK, Nat.reduceBEq, Nat.reduceAdd, Nat.reduceMul, Nat.reduceLeDiff, Nat.reduceEqDiff, Nat.reduceBNe, Nat.ble_eq, UInt8.reduceToNat, set_ne nB0B0_get_, set_ne nB0B0_get_.symm, set_comm nB0B0_get_])) (fun r33 => ?_)
    | with_reducible refine call_to_q (fun _ (h : tree_Page r32.1 = some _) => (by refine FE_cast ?_ (tree_Page_fe h); simp -implicitDefEqProofs only [go_sem, start, startE, resVs, resV, resC, allV, retK, Nat.reduceBEq, Nat.reduceAdd, Nat.reduceMul, Nat.reduceLeDiff, Nat.reduceEqDiff, Nat.reduceBNe, Nat.ble_eq, UInt8.reduceToNat, set_ne nB0B0_get_, set_ne nB0B0_get_.symm, set_comm nB0B0_get_])) (fun _ => rfl) (fun r33 => ?_)
    | with_reducible refine call_to (fun _ (h : tree_leaf (ix x10.kids_ p9) r32.1.V (path11 ++ [x10.n_]) r31 = some _) => tree_leaf_fe h) (fun r34 => ?_)
    | with_reducible refine call_to_q (fun _ (h : tree_leaf (ix x10.kids_ p9) r32.1.V (path11 ++ [x10.n_]) r31 = some _) => tree_leaf_fe h) (fun _ => rfl) (fun r34 => ?_)
    | with_reducible refine call_to (fun _ (h : tree_leaf (ix x10.kids_ p9) r32.1.V (path11 ++ [x10.n_]) r31 = some _) => (by refine FE_cast ?_ (tree_leaf_fe h); simp -implicitDefEqProofs only [go_sem, start, startE, resVs, resV, resC, allV, retK, Nat.reduceBEq, Nat.reduceAdd, Nat.reduceMul, Nat.reduceLeDiff, Nat.reduceEqDiff, Nat.reduceBNe, Nat.ble_eq, UInt8.reduceToNat, set_ne nB0B0_get_, set_ne nB0B0_get_.symm, set_comm nB0B0_get_])) (fun r34 => ?_)
    | with_reducible refine call_to_q (fun _ (h : tree_leaf (ix x10.kids_ p9) r32.1.V (path11 ++ [x10.n_]) r31 = some _) => (by refine FE_cast ?_ (tree_leaf_fe h); simp -implicitDefEqProofs only [go_sem, start, startE, resVs, resV, resC, allV, retK, Nat.reduceBEq, Nat.reduceAdd, Nat.reduceMul, Nat.reduceLeDiff, Nat.reduceEqDiff, Nat.reduceBNe, Nat.ble_eq, UInt8.reduceToNat, set_ne nB0B0_get_, set_ne nB0B0_get_.symm, set_comm nB0B0_get_])) (fun _ => rfl) (fun r34 => ?_)
    | with_reducible refine call_to (fun _ (h : tree_nodeOf (ix x10.kids_ p9) r32.1 = some _) => tree_nodeOf_fe h) (fun r35 => ?_)
    | with_reducible refine call_to_q (fun _ (h : tree_nodeOf (ix x10.kids_ p9) r32.1 = some _) => tree_nodeOf_fe h) (fun _ => rfl) (fun r35 => ?_)
    | with_reducible refine call_to (fun _ (h : tree_nodeOf (ix x10.kids_ p9) r32.1 = some _) => (by refine FE_cast ?_ (tree_nodeOf_fe h); simp -implicitDefEqProofs only [go_sem, start, startE, resVs, resV, resC, allV, retK, Nat.reduceBEq, Nat.reduceAdd, Nat.reduceMul, Nat.reduceLeDiff, Nat.reduceEqDiff, Nat.reduceBNe, Nat.ble_eq, UInt8.reduceToNat, set_ne nB0B0_get_, set_ne nB0B0_get_.symm, set_comm nB0B0_get_])) (fun r35 => ?_)
    | with_reducible refine call_to_q (fun _ (h : tree_nodeOf (ix x10.kids_ p9) r32.1 = some _) => (by refine FE_cast ?_ (tree_nodeOf_fe h); simp -implicitDefEqProofs only [go_sem, start, startE, resVs, resV, resC, allV, retK, Nat.reduceBEq, Nat.reduceAdd, Nat.reduceMul, Nat.reduceLeDiff, Nat.reduceEqDiff, Nat.reduceBNe, Nat.ble_eq, UInt8.reduceToNat, set_ne nB0B0_get_, set_ne nB0B0_get_.symm, set_comm nB0B0_get_])) (fun _ => rfl) (fun r35 => ?_)
    | with_reducible refine call_to (fun _ (h : tree_ask f_0 (ix x10.kids_ t50) = some _) => tree_ask_fe (B0 := B0) (B0_get_ := B0_get_) (by simp -implicitDefEqProofs only [go_sem, start, startE, resVs, resV, resC, allV, retK, Nat.reduceBEq, Nat.reduceAdd, Nat.reduceMul, Nat.reduceLeDiff, Nat.reduceEqDiff, Nat.reduceBNe, Nat.ble_eq, UInt8.reduceToNat, set_ne nB0B0_get_, set_ne nB0B0_get_.symm, set_comm nB0B0_get_]) (by simp -implicitDefEqProofs only [go_sem, start, startE, resVs, resV, resC, allV, retK, Nat.reduceBEq, Nat.reduceAdd, Nat.reduceMul, Nat.reduceLeDiff, Nat.reduceEqDiff, Nat.reduceBNe, Nat.ble_eq, UInt8.reduceToNat, set_ne nB0B0_get_, set_ne nB0B0_get_.symm, set_comm nB0B0_get_]) nB0B0_get_ h) (fun r64 => ?_)
    | with_reducible refine call_to_q (fun _ (h : tree_ask f_0 (ix x10.kids_ t50) = some _) => tree_ask_fe (B0 := B0) (B0_get_ := B0_get_) (by simp -implicitDefEqProofs only [go_sem, start, startE, resVs, resV, resC, allV, retK, Nat.reduceBEq, Nat.reduceAdd, Nat.reduceMul, Nat.reduceLeDiff, Nat.reduceEqDiff, Nat.reduceBNe, Nat.ble_eq, UInt8.reduceToNat, set_ne nB0B0_get_, set_ne nB0B0_get_.symm, set_comm nB0B0_get_]) (by simp -implicitDefEqProofs only [go_sem, start, startE, resVs, resV, resC, allV, retK, Nat.reduceBEq, Nat.reduceAdd, Nat.reduceMul, Nat.reduceLeDiff, Nat.reduceEqDiff, Nat.reduceBNe, Nat.ble_eq, UInt8.reduceToNat, set_ne nB0B0_get_, set_ne nB0B0_get_.symm, set_comm nB0B0_get_]) nB0B0_get_ h) (fun _ => rfl) (fun r64 => ?_)
    | ((with_reducible refine iter_to (fun ((p49, t50) : Int × Int) => ⟨[(0, .ref B0 0), (1, .int .i64 p49), (4, .loc [.int .i64 0, .sl true 1 ([] : List Int).length (flat ([] : List Int)), .int .i64 0, .int .i64 0, .str (Str.mk []).b, .sl true 4 ([] : List api_Value).length (flat ([] : List api_Value))]), (7, .loc [.int .i64 x10.n_, .int .i64 x10.v_.Kind, .int .i64 x10.v_.N, .str x10.v_.S.b, .sl false 4 x10.v_.L.length (flat x10.v_.L), .sl false 1 x10.kids_.length (flat x10.kids_), .int .i64 x10.count_]), (10, .sl true 1 (path11 ++ [x10.n_]).length (flat (path11 ++ [x10.n_]))), (11, .loc [.int .i64 r31.Kind, .int .i64 r31.N, .str r31.S.b, .sl false 4 r31.L.length (flat r31.L)]), (46, .int .i64 t13), (106, .sl false 1 x10.kids_.length (flat x10.kids_)), (107, .int .i64 (x10.kids_.length : Int)), (108, .int .i64 t50)], [], ((s.set B0 (.cells [.int .i64 f_0.root_, .int .i64 f_0.count_, .fn 34 [] [.ref B0_get_ 0]])).set B0_get_ (.cells [.sl false 6 f_0.get_.Objects.length (flat f_0.get_.Objects), .int .i64 f_0.get_.Root]))⟩) ?_ ?_); (first | exact rfl | simp -implicitDefEqProofs only [go_sem, start, startE, resVs, resV, resC, allV, retK, Nat.reduceBEq, Nat.reduceAdd, Nat.reduceMul, Nat.reduceLeDiff, Nat.reduceEqDiff, Nat.reduceBNe, Nat.ble_eq, UInt8.reduceToNat, set_ne nB0B0_get_, set_ne nB0B0_get_.symm, set_comm nB0B0_get_]); rintro J ⟨p49, t50⟩)
    | ((with_reducible refine join_toS (fun (_ : Unit) => ⟨[(4, .loc [.int .i64 0, .sl true 1 ([] : List Int).length (flat ([] : List Int)), .int .i64 0, .int .i64 0, .str (Str.mk []).b, .sl true 4 ([] : List api_Value).length (flat ([] : List api_Value))])], [], ((s.set B0 (.cells [.int .i64 f_0.root_, .int .i64 f_0.count_, .fn 34 [] [.ref B0_get_ 0]])).set B0_get_ (.cells [.sl false 6 f_0.get_.Objects.length (flat f_0.get_.Objects), .int .i64 f_0.get_.Root]))⟩) (fun J => ?_) ?_); rotate_left; rintro _)
    | ((with_reducible refine join_toS (fun ((p20, x22, path23, given24) : Int × tree_node × (List Int) × api_Value) => ⟨[(0, .ref B0 0), (1, .int .i64 p20), (4, .loc [.int .i64 0, .sl true 1 ([] : List Int).length (flat ([] : List Int)), .int .i64 0, .int .i64 0, .str (Str.mk []).b, .sl true 4 ([] : List api_Value).length (flat ([] : List api_Value))]), (7, .loc [.int .i64 x22.n_, .int .i64 x22.v_.Kind, .int .i64 x22.v_.N, .str x22.v_.S.b, .sl false 4 x22.v_.L.length (flat x22.v_.L), .sl false 1 x22.kids_.length (flat x22.kids_), .int .i64 x22.count_]), (10, .sl true 1 path23.length (flat path23)), (11, .loc [.int .i64 given24.Kind, .int .i64 given24.N, .str given24.S.b, .sl false 4 given24.L.length (flat given24.L)]), (46, .int .i64 t13)], [], ((s.set B0 (.cells [.int .i64 f_0.root_, .int .i64 f_0.count_, .fn 34 [] [.ref B0_get_ 0]])).set B0_get_ (.cells [.sl false 6 f_0.get_.Objects.length (flat f_0.get_.Objects), .int .i64 f_0.get_.Root]))⟩) (fun J => ?_) ?_); rotate_left; rintro ⟨p20, x22, path23, given24⟩)
    | ((with_reducible refine iter_to (fun ((p9, x10, path11, given12, t13) : Int × tree_node × (List Int) × api_Value × Int) => ⟨[(0, .ref B0 0), (1, .int .i64 p9), (4, .loc [.int .i64 0, .sl true 1 ([] : List Int).length (flat ([] : List Int)), .int .i64 0, .int .i64 0, .str (Str.mk []).b, .sl true 4 ([] : List api_Value).length (flat ([] : List api_Value))]), (7, .loc [.int .i64 x10.n_, .int .i64 x10.v_.Kind, .int .i64 x10.v_.N, .str x10.v_.S.b, .sl false 4 x10.v_.L.length (flat x10.v_.L), .sl false 1 x10.kids_.length (flat x10.kids_), .int .i64 x10.count_]), (10, .sl true 1 path11.length (flat path11)), (11, .loc [.int .i64 given12.Kind, .int .i64 given12.N, .str given12.S.b, .sl false 4 given12.L.length (flat given12.L)]), (46, .int .i64 t13)], [], ((s.set B0 (.cells [.int .i64 f_0.root_, .int .i64 f_0.count_, .fn 34 [] [.ref B0_get_ 0]])).set B0_get_ (.cells [.sl false 6 f_0.get_.Objects.length (flat f_0.get_.Objects), .int .i64 f_0.get_.Root]))⟩) ?_ ?_); (first | exact rfl | simp -implicitDefEqProofs only [go_sem, start, startE, resVs, resV, resC, allV, retK, Nat.reduceBEq, Nat.reduceAdd, Nat.reduceMul, Nat.reduceLeDiff, Nat.reduceEqDiff, Nat.reduceBNe, Nat.ble_eq, UInt8.reduceToNat, set_ne nB0B0_get_, set_ne nB0B0_get_.symm, set_comm nB0B0_get_]); rintro J ⟨p9, x10, path11, given12, t13⟩)
    | ((with_reducible refine join_toS (fun (_ : Unit) => ⟨[(4, .loc [.int .i64 0, .sl true 1 ([] : List Int).length (flat ([] : List Int)), .int .i64 0, .int .i64 0, .str (Str.mk []).b, .sl true 4 ([] : List api_Value).length (flat ([] : List api_Value))])], [], ((s.set B0 (.cells [.int .i64 f_0.root_, .int .i64 f_0.count_, .fn 34 [] [.ref B0_get_ 0]])).set B0_get_ (.cells [.sl false 6 f_0.get_.Objects.length (flat f_0.get_.Objects), .int .i64 f_0.get_.Root]))⟩) (fun J => ?_) ?_); rotate_left; rintro _)
    | simp -implicitDefEqProofs only [go_sem, start, startE, resVs, resV, resC, allV, retK, Nat.reduceBEq, Nat.reduceAdd, Nat.reduceMul, Nat.reduceLeDiff, Nat.reduceEqDiff, Nat.reduceBNe, Nat.ble_eq, UInt8.reduceToNat, set_ne nB0B0_get_, set_ne nB0B0_get_.symm, set_comm nB0B0_get_])
theorem tree_Find_fe {f_0 p_1} {B0 B0_get_ : Nat} {s : Store} {r : tree_Leaf × Int × Int} (hB0 : s B0 = some (.cells [.int .i64 f_0.root_, .int .i64 f_0.count_, .fn 34 [] [.ref B0_get_ 0]])) (hB0_get_ : s B0_get_ = some (.cells [.sl false 6 f_0.get_.Objects.length (flat f_0.get_.Objects), .int .i64 f_0.get_.Root])) (nB0B0_get_ : B0 ≠ B0_get_) (h : tree_Find f_0 p_1 = some r) : FE Go.Proofs.Tryz.prog 17 [.ref B0 0, .int .i64 p_1] s [.agg [.int .i64 r.1.Page, .sl false 1 r.1.Path.length (flat r.1.Path), .int .i64 r.1.Given.Kind, .int .i64 r.1.Given.N, .str r.1.Given.S.b, .sl false 4 r.1.Given.L.length (flat r.1.Given.L)], .int .i64 r.2.1, .int .i64 r.2.2] s := tree_Find_fn hB0 hB0_get_ nB0B0_get_ ⟨r, h, rfl, rfl⟩
/-- catchword/tree.Pages -/
def tree_Pages (f_0 : file_File) : Option (Int × Int × Int) :=
  bnd (tree_top f_0) fun r1 =>
  some (r1.1.count_, r1.2.1, r1.2.2)
def ir_tree_Pages : IC :=
 (.seq (.reg none [i1 2 (.mov false (.c (.int .i64 0))),
 i1 3 (.mov false (.c (.int .i64 0))),
 i1 4 (.mov false (.c (.int .i64 0)))] [0])
 (.seq (.reg none [mv 9 0,
 i1 10 (.call 42 [(.t 9)]),
 i1 8 (.movT (.t 10)),
 i1 11 (.extract (.t 8) 0),
 i1 12 (.extract (.t 8) 1),
 i1 13 (.extract (.t 8) 2),
 i1 5 (.allocL [.int .i64 0, .int .i64 0, .int .i64 0, .str [], .sl true 4 0 [], .sl true 1 0 [], .int .i64 0]),
 i0 (.store 7 (.t 5) (.t 11)),
 mv 6 12,
 mv 7 13] [5, 6, 7])
 (.seq (.reg none [i1 14 (.fieldAddr 6 (.t 5)),
 i1 15 (.load 1 false (.t 14)),
 mv 16 6,
 mv 17 7,
 mv 2 15,
 mv 3 16,
 mv 4 17] [2, 3, 4])
 .ret)))
def res_tree_Pages : List IRes := [⟨2, true, none⟩, ⟨3, true, none⟩, ⟨4, true, none⟩]
theorem is_tree_Pages : fnIs Go.Proofs.Tryz.prog 21 18 res_tree_Pages ir_tree_Pages = true := by kernel_rfl
theorem tree_Pages_fn {f_0} {B0 B0_get_ : Nat} {s : Store} {Q : List AV → Store → Prop} (hB0 : s B0 = some (.cells [.int .i64 f_0.root_, .int .i64 f_0.count_, .fn 34 [] [.ref B0_get_ 0]])) (hB0_get_ : s B0_get_ = some (.cells [.sl false 6 f_0.get_.Objects.length (flat f_0.get_.Objects), .int .i64 f_0.get_.Root])) (nB0B0_get_ : B0 ≠ B0_get_) : ok (tree_Pages f_0) (fun r => Q [.int .i64 r.1, .int .i64 r.2.1, .int .i64 r.2.2] s) → FN Go.Proofs.Tryz.prog 21 [.ref B0 0] s Q := by
  have hS : s = ((s.set B0 (.cells [.int .i64 f_0.root_, .int .i64 f_0.count_, .fn 34 [] [.ref B0_get_ 0]])).set B0_get_ (.cells [.sl false 6 f_0.get_.Objects.length (flat f_0.get_.Objects), .int .i64 f_0.get_.Root])) := by simp only [set_eq' hB0, set_eq' hB0_get_]
  rw [hS]
  intro h
  refine FN.of (draw_ok mix) is_tree_Pages rfl (Nat.le_of_ble_eq_true rfl) ?_
  revert h
  rw [ir_tree_Pages, res_tree_Pages, tree_Pages]
  repeat' (first
    | with_reducible exact tt_to
    | with_reducible refine and_to ?_ ?_
    | with_reducible refine im_to ?_
    | with_reducible refine call_to (fun _ (h : tree_top f_0 = some _) => tree_top_fe (B0 := B0) (B0_get_ := B0_get_) (by simp -implicitDefEqProofs only [go_sem, start, startE, resVs, resV, resC, allV, retK, Nat.reduceBEq, Nat.reduceAdd, Nat.reduceMul, Nat.reduceLeDiff, Nat.reduceEqDiff, Nat.reduceBNe, Nat.ble_eq, UInt8.reduceToNat, set_ne nB0B0_get_, set_ne nB0B0_get_.symm, set_comm nB0B0_get_]) (by simp -implicitDefEqProofs only [go_sem, start, startE, resVs, resV, resC, allV, retK, Nat.reduceBEq, Nat.reduceAdd, Nat.reduceMul, Nat.reduceLeDiff, Nat.reduceEqDiff, Nat.reduceBNe, Nat.ble_eq, UInt8.reduceToNat, set_ne nB0B0_get_, set_ne nB0B0_get_.symm, set_comm nB0B0_get_]) nB0B0_get_ h) (fun r1 => ?_)
    | with_reducible refine call_to_q (fun _ (h : tree_top f_0 = some _) => tree_top_fe (B0 := B0) (B0_get_ := B0_get_) (by simp -implicitDefEqProofs only [go_sem, start, startE, resVs, resV, resC, allV, retK, Nat.reduceBEq, Nat.reduceAdd, Nat.reduceMul, Nat.reduceLeDiff, Nat.reduceEqDiff, Nat.reduceBNe, Nat.ble_eq, UInt8.reduceToNat, set_ne nB0B0_get_, set_ne nB0B0_get_.symm, set_comm nB0B0_get_]) (by simp -implicitDefEqProofs only [go_sem, start, startE, resVs, resV, resC, allV, retK, Nat.reduceBEq, Nat.reduceAdd, Nat.reduceMul, Nat.reduceLeDiff, Nat.reduceEqDiff, Nat.reduceBNe, Nat.ble_eq, UInt8.reduceToNat, set_ne nB0B0_get_, set_ne nB0B0_get_.symm, set_comm nB0B0_get_]) nB0B0_get_ h) (fun _ => rfl) (fun r1 => ?_)
    | simp -implicitDefEqProofs only [go_sem, start, startE, resVs, resV, resC, allV, retK, Nat.reduceBEq, Nat.reduceAdd, Nat.reduceMul, Nat.reduceLeDiff, Nat.reduceEqDiff, Nat.reduceBNe, Nat.ble_eq, UInt8.reduceToNat, set_ne nB0B0_get_, set_ne nB0B0_get_.symm, set_comm nB0B0_get_])
theorem tree_Pages_fe {f_0} {B0 B0_get_ : Nat} {s : Store} {r : Int × Int × Int} (hB0 : s B0 = some (.cells [.int .i64 f_0.root_, .int .i64 f_0.count_, .fn 34 [] [.ref B0_get_ 0]])) (hB0_get_ : s B0_get_ = some (.cells [.sl false 6 f_0.get_.Objects.length (flat f_0.get_.Objects), .int .i64 f_0.get_.Root])) (nB0B0_get_ : B0 ≠ B0_get_) (h : tree_Pages f_0 = some r) : FE Go.Proofs.Tryz.prog 21 [.ref B0 0] s [.int .i64 r.1, .int .i64 r.2.1, .int .i64 r.2.2] s := tree_Pages_fn hB0 hB0_get_ nB0B0_get_ ⟨r, h, rfl, rfl⟩
/-- catchword/tree.Leaves -/
def tree_Leaves (f_0 : file_File) : Option ((List tree_Leaf) × Int × Int) :=
  bnd (tree_Pages f_0) fun r1 =>
  if r1.2.2 != 0 then
    some (([] : List tree_Leaf), r1.2.1, r1.2.2)
  else
    jnS (
      bndS (
        iter (fun ((out8, t9) : (List tree_Leaf) × Int) =>
          if decide (t9 < r1.1) then
            bnd (tree_Find f_0 t9) fun r16 =>
            if r16.2.2 != 0 then
              some (.inr (.inr (([] : List tree_Leaf), r16.2.1, r16.2.2)))
            else
              need ((out8.length + [r16.1].length) * 88 ≤ room) <|
              some (.inl (out8 ++ [r16.1], w64 (t9 + 1)))
          else
            some (.inr (.inl out8))) (([] : List tree_Leaf), 0)) (fun (out10 : (List tree_Leaf)) =>
        some (.inl out10))
      (fun ((t12, t13, t14) : (List tree_Leaf) × Int × Int) => some (.inr (t12, t13, t14)))) (fun (out2 : (List tree_Leaf)) =>
      some (out2, 0, 0))
    (fun ((t4, t5, t6) : (List tree_Leaf) × Int × Int) => some (t4, t5, t6))
def ir_tree_Leaves : IC :=
 (.seq (.reg none [i1 2 (.mov true (.c (.sl true 6 0 []))),
 i1 3 (.mov false (.c (.int .i64 0))),
 i1 4 (.mov false (.c (.int .i64 0)))] [0])
 (.seq (.reg none [mv 14 0,
 i1 15 (.call 21 [(.t 14)]),
 i1 13 (.movT (.t 15)),
 i1 16 (.extract (.t 13) 0),
 i1 17 (.extract (.t 13) 1),
 i1 18 (.extract (.t 13) 2),
 mv 5 16,
 mv 6 17,
 mv 7 18] [0, 5, 6, 7])
 (.seq (.seq (.reg none [mv 19 7,
 i1 20 (.bin .neq (.t 19) (.c (.int .i64 0)))] [0, 5, 6, 7, 20])
 (.cond (.t 20) (.seq (.reg none [mv 21 6,
 mv 22 7,
 i1 2 (.mov true (.c (.sl true 6 0 []))),
 mv 3 21,
 mv 4 22] [2, 3, 4])
 .ret)
 .skip))
 (.seq (.reg none [i1 8 (.mov true (.c (.sl true 6 0 [])))] [0, 5, 8])
 (.join [(8, false)] (.seq (.reg none [mv 23 5,
 i1 24 (.mov false (.c (.int .i64 0)))] [0, 8, 23, 24])
 (.block 0 (.loop [(0, false), (8, false), (23, false), (24, false)] (.seq (.reg none [i1 25 (.bin .lss (.t 24) (.t 23))] [0, 8, 23, 24, 25])
 (.seq (.cond (.t 25) .skip
 (.exit 0))
 (.seq (.block 1 (.seq (.reg none [mv 26 24,
 mv 9 26] [0, 8, 9, 23, 24])
 (.seq (.reg none [mv 28 0,
 mv 29 9,
 i1 30 (.call 17 [(.t 28), (.t 29)]),
 i1 27 (.movT (.t 30)),
 i1 31 (.extract (.t 27) 0),
 i1 32 (.extract (.t 27) 1),
 i1 33 (.extract (.t 27) 2),
 i1 10 (.allocL [.int .i64 0, .sl true 1 0 [], .int .i64 0, .int .i64 0, .str [], .sl true 4 0 []]),
 i0 (.store 6 (.t 10) (.t 31)),
 mv 11 32,
 mv 12 33] [0, 8, 10, 11, 12, 23, 24])
 (.seq (.seq (.reg none [mv 34 12,
 i1 35 (.bin .neq (.t 34) (.c (.int .i64 0)))] [0, 8, 10, 11, 12, 23, 24, 35])
 (.cond (.t 35) (.seq (.reg none [mv 36 11,
 mv 37 12,
 i1 2 (.mov true (.c (.sl true 6 0 []))),
 mv 3 36,
 mv 4 37] [2, 3, 4])
 .ret)
 .skip))
 (.reg none [mt 38 8,
 i1 39 (.load 6 true (.t 10)),
 i1 40 (.buildSl 6 1 [.int .i64 0, .sl true 1 0 [], .int .i64 0, .int .i64 0, .str [], .sl true 4 0 []] [(0, 6, (.t 39))]),
 i1 41 (.append 6 88 (.t 38) (.t 40)),
 mt 8 41] [0, 8, 23, 24])))))
 (.reg none [i1 42 (.bin .add (.t 24) (.c (.int .i64 1))),
 mv 24 42] [0, 8, 23, 24])))))))
 (.seq (.reg none [mt 43 8,
 mt 2 43,
 i1 3 (.mov false (.c (.int .i64 0))),
 i1 4 (.mov false (.c (.int .i64 0)))] [2, 3, 4])
 .ret))))))
def res_tree_Leaves : List IRes := [⟨2, true, none⟩, ⟨3, true, none⟩, ⟨4, true, none⟩]
theorem is_tree_Leaves : fnIs Go.Proofs.Tryz.prog 23 44 res_tree_Leaves ir_tree_Leaves = true := by kernel_rfl
theorem tree_Leaves_fn {f_0} {B0 B0_get_ : Nat} {s : Store} {Q : List AV → Store → Prop} (hB0 : s B0 = some (.cells [.int .i64 f_0.root_, .int .i64 f_0.count_, .fn 34 [] [.ref B0_get_ 0]])) (hB0_get_ : s B0_get_ = some (.cells [.sl false 6 f_0.get_.Objects.length (flat f_0.get_.Objects), .int .i64 f_0.get_.Root])) (nB0B0_get_ : B0 ≠ B0_get_) : ok (tree_Leaves f_0) (fun r => Q [.sl true 6 r.1.length (flat r.1), .int .i64 r.2.1, .int .i64 r.2.2] s) → FN Go.Proofs.Tryz.prog 23 [.ref B0 0] s Q := by
  have hS : s = ((s.set B0 (.cells [.int .i64 f_0.root_, .int .i64 f_0.count_, .fn 34 [] [.ref B0_get_ 0]])).set B0_get_ (.cells [.sl false 6 f_0.get_.Objects.length (flat f_0.get_.Objects), .int .i64 f_0.get_.Root])) := by simp only [set_eq' hB0, set_eq' hB0_get_]
  rw [hS]
  intro h
  refine FN.of (draw_ok mix) is_tree_Leaves rfl (Nat.le_of_ble_eq_true rfl) ?_
  revert h
  rw [ir_tree_Leaves, res_tree_Leaves, tree_Leaves]
  repeat' (first
    | with_reducible exact tt_to
    | with_reducible refine and_to ?_ ?_
    | with_reducible refine im_to ?_
    | with_reducible refine call_to (fun _ (h : tree_Pages f_0 = some _) => tree_Pages_fe (B0 := B0) (B0_get_ := B0_get_) (by simp -implicitDefEqProofs only [go_sem, start, startE, resVs, resV, resC, allV, retK, Nat.reduceBEq, Nat.reduceAdd, Nat.reduceMul, Nat.reduceLeDiff, Nat.reduceEqDiff, Nat.reduceBNe, Nat.ble_eq, UInt8.reduceToNat, set_ne nB0B0_get_, set_ne nB0B0_get_.symm, set_comm nB0B0_get_]) (by simp -implicitDefEqProofs only [go_sem, start, startE, resVs, resV, resC, allV, retK, Nat.reduceBEq, Nat.reduceAdd, Nat.reduceMul, Nat.reduceLeDiff, Nat.reduceEqDiff, Nat.reduceBNe, Nat.ble_eq, UInt8.reduceToNat, set_ne nB0B0_get_, set_ne nB0B0_get_.symm, set_comm nB0B0_get_]) nB0B0_get_ h) (fun r1 => ?_)
    | with_reducible refine call_to_q (fun _ (h : tree_Pages f_0 = some _) => tree_Pages_fe (B0 := B0) (B0_get_ := B0_get_) (by simp -implicitDefEqProofs only [go_sem, start, startE, resVs, resV, resC, allV, retK, Nat.reduceBEq, Nat.reduceAdd, Nat.reduceMul, Nat.reduceLeDiff, Nat.reduceEqDiff, Nat.reduceBNe, Nat.ble_eq, UInt8.reduceToNat, set_ne nB0B0_get_, set_ne nB0B0_get_.symm, set_comm nB0B0_get_]) (by simp -implicitDefEqProofs only [go_sem, start, startE, resVs, resV, resC, allV, retK, Nat.reduceBEq, Nat.reduceAdd, Nat.reduceMul, Nat.reduceLeDiff, Nat.reduceEqDiff, Nat.reduceBNe, Nat.ble_eq, UInt8.reduceToNat, set_ne nB0B0_get_, set_ne nB0B0_get_.symm, set_comm nB0B0_get_]) nB0B0_get_ h) (fun _ => rfl) (fun r1 => ?_)
    | with_reducible refine call_to (fun _ (h : tree_Find f_0 t9 = some _) => tree_Find_fe (B0 := B0) (B0_get_ := B0_get_) (by simp -implicitDefEqProofs only [go_sem, start, startE, resVs, resV, resC, allV, retK, Nat.reduceBEq, Nat.reduceAdd, Nat.reduceMul, Nat.reduceLeDiff, Nat.reduceEqDiff, Nat.reduceBNe, Nat.ble_eq, UInt8.reduceToNat, set_ne nB0B0_get_, set_ne nB0B0_get_.symm, set_comm nB0B0_get_]) (by simp -implicitDefEqProofs only [go_sem, start, startE, resVs, resV, resC, allV, retK, Nat.reduceBEq, Nat.reduceAdd, Nat.reduceMul, Nat.reduceLeDiff, Nat.reduceEqDiff, Nat.reduceBNe, Nat.ble_eq, UInt8.reduceToNat, set_ne nB0B0_get_, set_ne nB0B0_get_.symm, set_comm nB0B0_get_]) nB0B0_get_ h) (fun r16 => ?_)
    | with_reducible refine call_to_q (fun _ (h : tree_Find f_0 t9 = some _) => tree_Find_fe (B0 := B0) (B0_get_ := B0_get_) (by simp -implicitDefEqProofs only [go_sem, start, startE, resVs, resV, resC, allV, retK, Nat.reduceBEq, Nat.reduceAdd, Nat.reduceMul, Nat.reduceLeDiff, Nat.reduceEqDiff, Nat.reduceBNe, Nat.ble_eq, UInt8.reduceToNat, set_ne nB0B0_get_, set_ne nB0B0_get_.symm, set_comm nB0B0_get_]) (by simp -implicitDefEqProofs only [go_sem, start, startE, resVs, resV, resC, allV, retK, Nat.reduceBEq, Nat.reduceAdd, Nat.reduceMul, Nat.reduceLeDiff, Nat.reduceEqDiff, Nat.reduceBNe, Nat.ble_eq, UInt8.reduceToNat, set_ne nB0B0_get_, set_ne nB0B0_get_.symm, set_comm nB0B0_get_]) nB0B0_get_ h) (fun _ => rfl) (fun r16 => ?_)
    | ((with_reducible refine iter_to (fun ((out8, t9) : (List tree_Leaf) × Int) => ⟨[(0, .ref B0 0), (8, .sl true 6 out8.length (flat out8)), (23, .int .i64 r1.1), (24, .int .i64 t9)], [], ((s.set B0 (.cells [.int .i64 f_0.root_, .int .i64 f_0.count_, .fn 34 [] [.ref B0_get_ 0]])).set B0_get_ (.cells [.sl false 6 f_0.get_.Objects.length (flat f_0.get_.Objects), .int .i64 f_0.get_.Root]))⟩) ?_ ?_); (first | exact rfl | simp -implicitDefEqProofs only [go_sem, start, startE, resVs, resV, resC, allV, retK, Nat.reduceBEq, Nat.reduceAdd, Nat.reduceMul, Nat.reduceLeDiff, Nat.reduceEqDiff, Nat.reduceBNe, Nat.ble_eq, UInt8.reduceToNat, set_ne nB0B0_get_, set_ne nB0B0_get_.symm, set_comm nB0B0_get_]); rintro J ⟨out8, t9⟩)
    | ((with_reducible refine join_toS (fun (out2 : (List tree_Leaf)) => ⟨[(8, .sl true 6 out2.length (flat out2))], [], ((s.set B0 (.cells [.int .i64 f_0.root_, .int .i64 f_0.count_, .fn 34 [] [.ref B0_get_ 0]])).set B0_get_ (.cells [.sl false 6 f_0.get_.Objects.length (flat f_0.get_.Objects), .int .i64 f_0.get_.Root]))⟩) (fun J => ?_) ?_); rotate_left; rintro out2)
    | simp -implicitDefEqProofs only [go_sem, start, startE, resVs, resV, resC, allV, retK, Nat.reduceBEq, Nat.reduceAdd, Nat.reduceMul, Nat.reduceLeDiff, Nat.reduceEqDiff, Nat.reduceBNe, Nat.ble_eq, UInt8.reduceToNat, set_ne nB0B0_get_, set_ne nB0B0_get_.symm, set_comm nB0B0_get_])
theorem tree_Leaves_fe {f_0} {B0 B0_get_ : Nat} {s : Store} {r : (List tree_Leaf) × Int × Int} (hB0 : s B0 = some (.cells [.int .i64 f_0.root_, .int .i64 f_0.count_, .fn 34 [] [.ref B0_get_ 0]])) (hB0_get_ : s B0_get_ = some (.cells [.sl false 6 f_0.get_.Objects.length (flat f_0.get_.Objects), .int .i64 f_0.get_.Root])) (nB0B0_get_ : B0 ≠ B0_get_) (h : tree_Leaves f_0 = some r) : FE Go.Proofs.Tryz.prog 23 [.ref B0 0] s [.sl true 6 r.1.length (flat r.1), .int .i64 r.2.1, .int .i64 r.2.2] s := tree_Leaves_fn hB0 hB0_get_ nB0B0_get_ ⟨r, h, rfl, rfl⟩
/-- catchword/catchwordlaw20.works -/
def law20_works  : Option (Bool) :=
  bnd (law20_small) fun r1 =>
  bnd (file_Of r1) fun r2 =>
  bnd (tree_Find r2 0) fun r3 =>
  bnd (tree_Pages r2) fun r4 =>
  bnd (tree_Leaves r2) fun r5 =>
  bnd (value_Get r3.1.Given (Str.mk [82, 111, 116, 97, 116, 101])) fun r6 =>
  need (((r3.1.Page == 3) && ((r3.1.Path.length : Int) == 1)) = true → 0 ≤ (0 : Int) ∧ (0 : Int) < r3.1.Path.length) <|
  some (((((((((((((r3.1.Page == 3) && ((r3.1.Path.length : Int) == 1)) && ((ix r3.1.Path 0) == 2)) && (r3.2.1 == 0)) && (r3.2.2 == 0)) && (r4.1 == 1)) && (r4.2.1 == 0)) && (r4.2.2 == 0)) && ((r5.1.length : Int) == 1)) && (r5.2.1 == 0)) && (r5.2.2 == 0)) && r6.2) && (r6.1.N == 90))
def ir_law20_works : IC :=
 (.seq (.reg none [i1 0 (.mov false (.c (.bool false)))] [])
 (.seq (.reg none [i1 13 (.call 40 []),
 i1 14 (.call 10 [(.t 13)]),
 mv 1 14] [1])
 (.seq (.reg none [mv 16 1,
 i1 17 (.call 17 [(.t 16), (.c (.int .i64 0))]),
 i1 15 (.movT (.t 17)),
 i1 18 (.extract (.t 15) 0),
 i1 19 (.extract (.t 15) 1),
 i1 20 (.extract (.t 15) 2),
 i1 2 (.allocL [.int .i64 0, .sl true 1 0 [], .int .i64 0, .int .i64 0, .str [], .sl true 4 0 []]),
 i0 (.store 6 (.t 2) (.t 18)),
 mv 3 19,
 mv 4 20] [1, 2, 3, 4])
 (.seq (.reg none [mv 22 1,
 i1 23 (.call 21 [(.t 22)]),
 i1 21 (.movT (.t 23)),
 i1 24 (.extract (.t 21) 0),
 i1 25 (.extract (.t 21) 1),
 i1 26 (.extract (.t 21) 2),
 mv 5 24,
 mv 6 25,
 mv 7 26] [1, 2, 3, 4, 5, 6, 7])
 (.seq (.reg none [mv 28 1,
 i1 29 (.call 23 [(.t 28)]),
 i1 27 (.movT (.t 29)),
 i1 30 (.extract (.t 27) 0),
 i1 31 (.extract (.t 27) 1),
 i1 32 (.extract (.t 27) 2),
 mt 8 30,
 mv 9 31,
 mv 10 32] [2, 3, 4, 5, 6, 7, 8, 9, 10])
 (.seq (.reg none [i1 34 (.fieldAddr 2 (.t 2)),
 i1 35 (.load 4 true (.t 34)),
 i1 36 (.call 41 [(.t 35), (.c (.str [82, 111, 116, 97, 116, 101]))]),
 i1 33 (.movT (.t 36)),
 i1 37 (.extract (.t 33) 0),
 i1 38 (.extract (.t 33) 1),
 i1 11 (.allocL [.int .i64 0, .int .i64 0, .str [], .sl true 4 0 []]),
 i0 (.store 4 (.t 11) (.t 37)),
 mv 12 38] [2, 3, 4, 5, 6, 7, 8, 9, 10, 11, 12])
 (.seq (.reg none [i1 39 (.fieldAddr 0 (.t 2)),
 i1 40 (.load 1 false (.t 39)),
 i1 41 (.bin .eql (.t 40) (.c (.int .i64 3))),
 mv 42 41,
 i1g 43 42 true (.fieldAddr 1 (.t 2)),
 i1g 44 42 true (.load 1 false (.t 43)),
 i1g 45 42 true (.len 0 (.t 44)),
 i1g 46 42 true (.bin .eql (.t 45) (.c (.int .i64 1))),
 i1 47 (.pick (.t 42) (.t 46) (.c (.bool false))),
 mv 48 47,
 i1g 49 48 true (.fieldAddr 1 (.t 2)),
 i1g 50 48 true (.load 1 false (.t 49)),
 i1g 51 48 true (.indexAddr [.int .i64 0] (.t 50) (.c (.int .i64 0))),
 i1g 52 48 true (.load 1 false (.t 51)),
 i1g 53 48 true (.bin .eql (.t 52) (.c (.int .i64 2))),
 i1 54 (.pick (.t 48) (.t 53) (.c (.bool false))),
 mv 55 54,
 mvg 56 3 55 true,
 i1g 57 55 true (.bin .eql (.t 56) (.c (.int .i64 0))),
 i1 58 (.pick (.t 55) (.t 57) (.c (.bool false))),
 mv 59 58,
 mvg 60 4 59 true,
 i1g 61 59 true (.bin .eql (.t 60) (.c (.int .i64 0))),
 i1 62 (.pick (.t 59) (.t 61) (.c (.bool false))),
 mv 63 62,
 mvg 64 5 63 true,
 i1g 65 63 true (.bin .eql (.t 64) (.c (.int .i64 1))),
 i1 66 (.pick (.t 63) (.t 65) (.c (.bool false))),
 mv 67 66,
 mvg 68 6 67 true,
 i1g 69 67 true (.bin .eql (.t 68) (.c (.int .i64 0))),
 i1 70 (.pick (.t 67) (.t 69) (.c (.bool false))),
 mv 71 70,
 mvg 72 7 71 true,
 i1g 73 71 true (.bin .eql (.t 72) (.c (.int .i64 0))),
 i1 74 (.pick (.t 71) (.t 73) (.c (.bool false))),
 mv 75 74,
 mvg 76 8 75 true,
 i1g 77 75 true (.len 0 (.t 76)),
 i1g 78 75 true (.bin .eql (.t 77) (.c (.int .i64 1))),
 i1 79 (.pick (.t 75) (.t 78) (.c (.bool false))),
 mv 80 79,
 mvg 81 9 80 true,
 i1g 82 80 true (.bin .eql (.t 81) (.c (.int .i64 0))),
 i1 83 (.pick (.t 80) (.t 82) (.c (.bool false))),
 mv 84 83,
 mvg 85 10 84 true,
 i1g 86 84 true (.bin .eql (.t 85) (.c (.int .i64 0))),
 i1 87 (.pick (.t 84) (.t 86) (.c (.bool false))),
 mv 88 87,
 mvg 89 12 88 true,
 i1 90 (.pick (.t 88) (.t 89) (.c (.bool false))),
 mv 91 90,
 i1g 92 91 true (.fieldAddr 1 (.t 11)),
 i1g 93 91 true (.load 1 false (.t 92)),
 i1g 94 91 true (.bin .eql (.t 93) (.c (.int .i64 90))),
 i1 95 (.pick (.t 91) (.t 94) (.c (.bool false))),
 mv 0 95] [0])
 .ret)))))))
def res_law20_works : List IRes := [⟨0, true, none⟩]
theorem is_law20_works : fnIs Go.Proofs.Tryz.prog 16 96 res_law20_works ir_law20_works = true := by kernel_rfl
theorem law20_works_fn  {s : Store} {Q : List AV → Store → Prop}  : ok (law20_works ) (fun r => Q [.bool r] s) → FN Go.Proofs.Tryz.prog 16 [] s Q := by
  intro h
  refine FN.forget ?_
  refine FN.of (draw_ok mix) is_law20_works rfl (Nat.le_of_ble_eq_true rfl) ?_
  revert h
  rw [ir_law20_works, res_law20_works, law20_works]
  repeat' (first
    | with_reducible exact tt_to
    | with_reducible refine and_to ?_ ?_
    | with_reducible refine im_to ?_
    | with_reducible refine call_to (fun _ (h : law20_small = some _) => law20_small_fe h) (fun r1 => ?_)
    | with_reducible refine call_to_q (fun _ (h : law20_small = some _) => law20_small_fe h) (fun _ => rfl) (fun r1 => ?_)
    | with_reducible refine call_to (fun _ (h : law20_small = some _) => (by refine FE_cast ?_ (law20_small_fe h); simp -implicitDefEqProofs only [go_sem, start, startE, resVs, resV, resC, allV, retK, Nat.reduceBEq, Nat.reduceAdd, Nat.reduceMul, Nat.reduceLeDiff, Nat.reduceEqDiff, Nat.reduceBNe, Nat.ble_eq, UInt8.reduceToNat])) (fun r1 => ?_)
    | with_reducible refine call_to_q (fun _ (h : law20_small = some _) => (by refine FE_cast ?_ (law20_small_fe h); simp -implicitDefEqProofs only [go_sem, start, startE, resVs, resV, resC, allV, retK, Nat.reduceBEq, Nat.reduceAdd, Nat.reduceMul, Nat.reduceLeDiff, Nat.reduceEqDiff, Nat.reduceBNe, Nat.ble_eq, UInt8.reduceToNat])) (fun _ => rfl) (fun r1 => ?_)
    | with_reducible refine fun hh => file_Of_fn (ok_mono (show ok (file_Of r1) _ from hh) fun r2 => ?_)
    | with_reducible refine call_to (fun _ (h : tree_Find r2 0 = some _) => tree_Find_fe (B0 := N2) (B0_get_ := N1) (by simp -implicitDefEqProofs only [go_sem, start, startE, resVs, resV, resC, allV, retK, Nat.reduceBEq, Nat.reduceAdd, Nat.reduceMul, Nat.reduceLeDiff, Nat.reduceEqDiff, Nat.reduceBNe, Nat.ble_eq, UInt8.reduceToNat, set_ne nN2N1, set_ne nN2N1.symm, set_comm nN2N1.symm]) (by simp -implicitDefEqProofs only [go_sem, start, startE, resVs, resV, resC, allV, retK, Nat.reduceBEq, Nat.reduceAdd, Nat.reduceMul, Nat.reduceLeDiff, Nat.reduceEqDiff, Nat.reduceBNe, Nat.ble_eq, UInt8.reduceToNat, set_ne nN2N1, set_ne nN2N1.symm, set_comm nN2N1.symm]) nN2N1 h) (fun r3 => ?_)
    | with_reducible refine call_to_q (fun _ (h : tree_Find r2 0 = some _) => tree_Find_fe (B0 := N2) (B0_get_ := N1) (by simp -implicitDefEqProofs only [go_sem, start, startE, resVs, resV, resC, allV, retK, Nat.reduceBEq, Nat.reduceAdd, Nat.reduceMul, Nat.reduceLeDiff, Nat.reduceEqDiff, Nat.reduceBNe, Nat.ble_eq, UInt8.reduceToNat, set_ne nN2N1, set_ne nN2N1.symm, set_comm nN2N1.symm]) (by simp -implicitDefEqProofs only [go_sem, start, startE, resVs, resV, resC, allV, retK, Nat.reduceBEq, Nat.reduceAdd, Nat.reduceMul, Nat.reduceLeDiff, Nat.reduceEqDiff, Nat.reduceBNe, Nat.ble_eq, UInt8.reduceToNat, set_ne nN2N1, set_ne nN2N1.symm, set_comm nN2N1.symm]) nN2N1 h) (fun _ => rfl) (fun r3 => ?_)
    | with_reducible refine call_to (fun _ (h : tree_Pages r2 = some _) => tree_Pages_fe (B0 := N2) (B0_get_ := N1) (by simp -implicitDefEqProofs only [go_sem, start, startE, resVs, resV, resC, allV, retK, Nat.reduceBEq, Nat.reduceAdd, Nat.reduceMul, Nat.reduceLeDiff, Nat.reduceEqDiff, Nat.reduceBNe, Nat.ble_eq, UInt8.reduceToNat, set_ne nN2N1, set_ne nN2N1.symm, set_comm nN2N1.symm]) (by simp -implicitDefEqProofs only [go_sem, start, startE, resVs, resV, resC, allV, retK, Nat.reduceBEq, Nat.reduceAdd, Nat.reduceMul, Nat.reduceLeDiff, Nat.reduceEqDiff, Nat.reduceBNe, Nat.ble_eq, UInt8.reduceToNat, set_ne nN2N1, set_ne nN2N1.symm, set_comm nN2N1.symm]) nN2N1 h) (fun r4 => ?_)
    | with_reducible refine call_to_q (fun _ (h : tree_Pages r2 = some _) => tree_Pages_fe (B0 := N2) (B0_get_ := N1) (by simp -implicitDefEqProofs only [go_sem, start, startE, resVs, resV, resC, allV, retK, Nat.reduceBEq, Nat.reduceAdd, Nat.reduceMul, Nat.reduceLeDiff, Nat.reduceEqDiff, Nat.reduceBNe, Nat.ble_eq, UInt8.reduceToNat, set_ne nN2N1, set_ne nN2N1.symm, set_comm nN2N1.symm]) (by simp -implicitDefEqProofs only [go_sem, start, startE, resVs, resV, resC, allV, retK, Nat.reduceBEq, Nat.reduceAdd, Nat.reduceMul, Nat.reduceLeDiff, Nat.reduceEqDiff, Nat.reduceBNe, Nat.ble_eq, UInt8.reduceToNat, set_ne nN2N1, set_ne nN2N1.symm, set_comm nN2N1.symm]) nN2N1 h) (fun _ => rfl) (fun r4 => ?_)
    | with_reducible refine call_to (fun _ (h : tree_Leaves r2 = some _) => tree_Leaves_fe (B0 := N2) (B0_get_ := N1) (by simp -implicitDefEqProofs only [go_sem, start, startE, resVs, resV, resC, allV, retK, Nat.reduceBEq, Nat.reduceAdd, Nat.reduceMul, Nat.reduceLeDiff, Nat.reduceEqDiff, Nat.reduceBNe, Nat.ble_eq, UInt8.reduceToNat, set_ne nN2N1, set_ne nN2N1.symm, set_comm nN2N1.symm]) (by simp -implicitDefEqProofs only [go_sem, start, startE, resVs, resV, resC, allV, retK, Nat.reduceBEq, Nat.reduceAdd, Nat.reduceMul, Nat.reduceLeDiff, Nat.reduceEqDiff, Nat.reduceBNe, Nat.ble_eq, UInt8.reduceToNat, set_ne nN2N1, set_ne nN2N1.symm, set_comm nN2N1.symm]) nN2N1 h) (fun r5 => ?_)
    | with_reducible refine call_to_q (fun _ (h : tree_Leaves r2 = some _) => tree_Leaves_fe (B0 := N2) (B0_get_ := N1) (by simp -implicitDefEqProofs only [go_sem, start, startE, resVs, resV, resC, allV, retK, Nat.reduceBEq, Nat.reduceAdd, Nat.reduceMul, Nat.reduceLeDiff, Nat.reduceEqDiff, Nat.reduceBNe, Nat.ble_eq, UInt8.reduceToNat, set_ne nN2N1, set_ne nN2N1.symm, set_comm nN2N1.symm]) (by simp -implicitDefEqProofs only [go_sem, start, startE, resVs, resV, resC, allV, retK, Nat.reduceBEq, Nat.reduceAdd, Nat.reduceMul, Nat.reduceLeDiff, Nat.reduceEqDiff, Nat.reduceBNe, Nat.ble_eq, UInt8.reduceToNat, set_ne nN2N1, set_ne nN2N1.symm, set_comm nN2N1.symm]) nN2N1 h) (fun _ => rfl) (fun r5 => ?_)
    | with_reducible refine call_to (fun _ (h : value_Get r3.1.Given (Str.mk [82, 111, 116, 97, 116, 101]) = some _) => value_Get_fe h) (fun r6 => ?_)
    | with_reducible refine call_to_q (fun _ (h : value_Get r3.1.Given (Str.mk [82, 111, 116, 97, 116, 101]) = some _) => value_Get_fe h) (fun _ => rfl) (fun r6 => ?_)
    | with_reducible refine call_to (fun _ (h : value_Get r3.1.Given (Str.mk [82, 111, 116, 97, 116, 101]) = some _) => (by refine FE_cast ?_ (value_Get_fe h); simp -implicitDefEqProofs only [go_sem, start, startE, resVs, resV, resC, allV, retK, Nat.reduceBEq, Nat.reduceAdd, Nat.reduceMul, Nat.reduceLeDiff, Nat.reduceEqDiff, Nat.reduceBNe, Nat.ble_eq, UInt8.reduceToNat])) (fun r6 => ?_)
    | with_reducible refine call_to_q (fun _ (h : value_Get r3.1.Given (Str.mk [82, 111, 116, 97, 116, 101]) = some _) => (by refine FE_cast ?_ (value_Get_fe h); simp -implicitDefEqProofs only [go_sem, start, startE, resVs, resV, resC, allV, retK, Nat.reduceBEq, Nat.reduceAdd, Nat.reduceMul, Nat.reduceLeDiff, Nat.reduceEqDiff, Nat.reduceBNe, Nat.ble_eq, UInt8.reduceToNat])) (fun _ => rfl) (fun r6 => ?_)
    | ((fail_if_success (have _x := sN1)); with_reducible intro hh N1 hN1; (try simp only [set_none] at hN1); have sN1 := hN1; revert hh)
    | (have _x := sN1; clear _x; (fail_if_success (have _x := sN2)); with_reducible intro hh N2 hN2; (try simp only [set_none] at hN2); obtain ⟨nN2N1, sN2⟩ := hN2; revert hh)
    | with_reducible exact fun hh => ⟨_, SubS.set (SubS.set (SubS.refl _) (by simp [Store.set, sN1])) (by simp [Store.set, sN2]), hh⟩
    | with_reducible exact fun hh => ⟨_, SubS.set (SubS.refl _) (by simp [Store.set, sN1]), hh⟩
    | with_reducible exact fun hh => ⟨_, SubS.refl _, hh⟩
    | simp -implicitDefEqProofs only [go_sem, start, startE, resVs, resV, resC, allV, retK, Nat.reduceBEq, Nat.reduceAdd, Nat.reduceMul, Nat.reduceLeDiff, Nat.reduceEqDiff, Nat.reduceBNe, Nat.ble_eq, UInt8.reduceToNat, set_ne nN2N1, set_ne nN2N1.symm, set_comm nN2N1.symm]
    | simp -implicitDefEqProofs only [go_sem, start, startE, resVs, resV, resC, allV, retK, Nat.reduceBEq, Nat.reduceAdd, Nat.reduceMul, Nat.reduceLeDiff, Nat.reduceEqDiff, Nat.reduceBNe, Nat.ble_eq, UInt8.reduceToNat]
    | simp -implicitDefEqProofs only [go_sem, start, startE, resVs, resV, resC, allV, retK, Nat.reduceBEq, Nat.reduceAdd, Nat.reduceMul, Nat.reduceLeDiff, Nat.reduceEqDiff, Nat.reduceBNe, Nat.ble_eq, UInt8.reduceToNat])
theorem law20_works_fe  {s : Store} {r : Bool}  (h : law20_works  = some r) : FE Go.Proofs.Tryz.prog 16 [] s [.bool r] s := law20_works_fn   ⟨r, h, rfl, rfl⟩
structure ref16_File where
  B : (List UInt8)
  Known : (List Bool)
instance : Enc ref16_File := ⟨2, fun x => [.sl false 1 x.B.length (flat x.B), .sl false 1 x.Known.length (flat x.Known)], (ref16_File.mk [] []), by decide, fun _ => rfl, fun _ => rfl⟩
@[go_sem] theorem cells_ref16_File (x : ref16_File) : Enc.cells x = [.sl false 1 x.B.length (flat x.B), .sl false 1 x.Known.length (flat x.Known)] := rfl
@[go_sem] theorem w_ref16_File : Enc.w ref16_File = 2 := rfl
@[go_sem] theorem pad_ref16_File (l : List ref16_File) (i : Int) : pad [.sl false 1 0 [], .sl false 1 0 []] (views (AB.sub (flat l) (i.toNat * 2) 2)) = [.sl false 1 ((ix l i).B).length (flat ((ix l i).B)), .sl false 1 ((ix l i).Known).length (flat ((ix l i).Known))] := by
  rw [← cells_ref16_File]; exact flat_pad _ 2 l i (by rw [cells_ref16_File]; rfl) rfl
@[go_sem] theorem mk_ref16_File (x : ref16_File) : ref16_File.mk x.B x.Known = x := by cases x; rfl
structure ref17_Table where
  Places : (List Int)
  Root : Int
instance : Enc ref17_Table := ⟨2, fun x => [.sl false 1 x.Places.length (flat x.Places), .int .i64 x.Root], (ref17_Table.mk [] 0), by decide, fun _ => rfl, fun _ => rfl⟩
@[go_sem] theorem cells_ref17_Table (x : ref17_Table) : Enc.cells x = [.sl false 1 x.Places.length (flat x.Places), .int .i64 x.Root] := rfl
@[go_sem] theorem w_ref17_Table : Enc.w ref17_Table = 2 := rfl
@[go_sem] theorem pad_ref17_Table (l : List ref17_Table) (i : Int) : pad [.sl false 1 0 [], .int .i64 0] (views (AB.sub (flat l) (i.toNat * 2) 2)) = [.sl false 1 ((ix l i).Places).length (flat ((ix l i).Places)), .int .i64 ((ix l i).Root)] := by
  rw [← cells_ref17_Table]; exact flat_pad _ 2 l i (by rw [cells_ref17_Table]; rfl) rfl
@[go_sem] theorem mk_ref17_Table (x : ref17_Table) : ref17_Table.mk x.Places x.Root = x := by cases x; rfl
structure ref19_File where
  Objects : (List api_Object)
  Bytes : ref16_File
  Table : ref17_Table
instance : Enc ref19_File := ⟨6, fun x => [.bool true, .sl false 6 x.Objects.length (flat x.Objects), .sl false 1 x.Bytes.B.length (flat x.Bytes.B), .sl false 1 x.Bytes.Known.length (flat x.Bytes.Known), .sl false 1 x.Table.Places.length (flat x.Table.Places), .int .i64 x.Table.Root], (ref19_File.mk [] (ref16_File.mk [] []) (ref17_Table.mk [] 0)), by decide, fun _ => rfl, fun _ => rfl⟩
@[go_sem] theorem cells_ref19_File (x : ref19_File) : Enc.cells x = [.bool true, .sl false 6 x.Objects.length (flat x.Objects), .sl false 1 x.Bytes.B.length (flat x.Bytes.B), .sl false 1 x.Bytes.Known.length (flat x.Bytes.Known), .sl false 1 x.Table.Places.length (flat x.Table.Places), .int .i64 x.Table.Root] := rfl
@[go_sem] theorem w_ref19_File : Enc.w ref19_File = 6 := rfl
@[go_sem] theorem mk_ref19_File (x : ref19_File) : ref19_File.mk x.Objects x.Bytes x.Table = x := by cases x; rfl
/-- catchword/catchwordref19.Of -/
def ref19_Of (d_0 : api_Doc) : Option (ref19_File) :=
  some (ref19_File.mk d_0.Objects (ref16_File.mk ([] : List UInt8) ([] : List Bool)) (ref17_Table.mk ([] : List Int) d_0.Root))
def ir_ref19_Of : IC :=
 (.seq (.reg none [i1 1 (.boxL 2 (.t 0)),
 i1 2 (.allocL [.bool false, .sl true 6 0 [], .sl true 1 0 [], .sl true 1 0 [], .sl true 1 0 [], .int .i64 0])] [1, 2])
 (.seq (.reg none [i1 3 (.fieldAddr 0 (.t 1)),
 i1 4 (.load 1 false (.t 3)),
 i1 5 (.fieldAddr 1 (.t 1)),
 i1 6 (.load 1 false (.t 5)),
 i1 7 (.build [.sl true 1 0 [], .int .i64 0] [(1, 1, (.t 6))]),
 i1 8 (.build [.bool false, .sl true 6 0 [], .sl true 1 0 [], .sl true 1 0 [], .sl true 1 0 [], .int .i64 0] [(0, 1, (.c (.bool true))), (1, 1, (.t 4)), (4, 2, (.t 7))]),
 i0 (.store 6 (.t 2) (.t 8))] [2])
 .ret))
def res_ref19_Of : List IRes := [⟨2, false, some (6, true)⟩]
theorem is_ref19_Of : fnIs Go.Proofs.Tryz.prog 13 9 res_ref19_Of ir_ref19_Of = true := by kernel_rfl
theorem ref19_Of_fn {d_0} {s : Store} {Q : List AV → Store → Prop}  : ok (ref19_Of d_0) (fun r => Q [.agg [.bool true, .sl false 6 r.Objects.length (flat r.Objects), .sl false 1 r.Bytes.B.length (flat r.Bytes.B), .sl false 1 r.Bytes.Known.length (flat r.Bytes.Known), .sl false 1 r.Table.Places.length (flat r.Table.Places), .int .i64 r.Table.Root]] s) → FN Go.Proofs.Tryz.prog 13 [.agg [.sl false 6 d_0.Objects.length (flat d_0.Objects), .int .i64 d_0.Root]] s Q := by
  intro h
  refine FN.of (draw_ok mix) is_ref19_Of rfl (Nat.le_of_ble_eq_true rfl) ?_
  revert h
  rw [ir_ref19_Of, res_ref19_Of, ref19_Of]
  repeat' (first
    | with_reducible exact tt_to
    | with_reducible refine and_to ?_ ?_
    | with_reducible refine im_to ?_
    | simp -implicitDefEqProofs only [go_sem, start, startE, resVs, resV, resC, allV, retK, Nat.reduceBEq, Nat.reduceAdd, Nat.reduceMul, Nat.reduceLeDiff, Nat.reduceEqDiff, Nat.reduceBNe, Nat.ble_eq, UInt8.reduceToNat])
theorem ref19_Of_fe {d_0} {s : Store} {r : ref19_File}  (h : ref19_Of d_0 = some r) : FE Go.Proofs.Tryz.prog 13 [.agg [.sl false 6 d_0.Objects.length (flat d_0.Objects), .int .i64 d_0.Root]] s [.agg [.bool true, .sl false 6 r.Objects.length (flat r.Objects), .sl false 1 r.Bytes.B.length (flat r.Bytes.B), .sl false 1 r.Bytes.Known.length (flat r.Bytes.Known), .sl false 1 r.Table.Places.length (flat r.Table.Places), .int .i64 r.Table.Root]] s := ref19_Of_fn   ⟨r, h, rfl, rfl⟩
structure ref20_Leaf where
  Page : Int
  Path : (List Int)
  Given : api_Value
instance : Enc ref20_Leaf := ⟨6, fun x => [.int .i64 x.Page, .sl false 1 x.Path.length (flat x.Path), .int .i64 x.Given.Kind, .int .i64 x.Given.N, .str x.Given.S.b, .sl false 4 x.Given.L.length (flat x.Given.L)], (ref20_Leaf.mk 0 [] (api_Value.mk 0 0 (Str.mk []) [])), by decide, fun _ => rfl, fun _ => rfl⟩
@[go_sem] theorem cells_ref20_Leaf (x : ref20_Leaf) : Enc.cells x = [.int .i64 x.Page, .sl false 1 x.Path.length (flat x.Path), .int .i64 x.Given.Kind, .int .i64 x.Given.N, .str x.Given.S.b, .sl false 4 x.Given.L.length (flat x.Given.L)] := rfl
@[go_sem] theorem w_ref20_Leaf : Enc.w ref20_Leaf = 6 := rfl
@[go_sem] theorem pad_ref20_Leaf (l : List ref20_Leaf) (i : Int) : pad [.int .i64 0, .sl false 1 0 [], .int .i64 0, .int .i64 0, .str [], .sl false 4 0 []] (views (AB.sub (flat l) (i.toNat * 6) 6)) = [.int .i64 ((ix l i).Page), .sl false 1 ((ix l i).Path).length (flat ((ix l i).Path)), .int .i64 (((ix l i).Given).Kind), .int .i64 (((ix l i).Given).N), .str (((ix l i).Given).S).b, .sl false 4 (((ix l i).Given).L).length (flat (((ix l i).Given).L))] := by
  rw [← cells_ref20_Leaf]; exact flat_pad _ 6 l i (by rw [cells_ref20_Leaf]; rfl) rfl
@[go_sem] theorem mk_ref20_Leaf (x : ref20_Leaf) : ref20_Leaf.mk x.Page x.Path x.Given = x := by cases x; rfl
/-- catchword/catchwordref19.Get -/
def ref19_Get (f_0 : ref19_File) (n_1 : Int) : Option (api_Object × Int × Int) :=
  if (decide (n_1 < 1)) || (decide (n_1 > (f_0.Objects.length : Int))) then
    some ((api_Object.mk (api_Value.mk 0 0 (Str.mk []) ([] : List api_Value)) false (Str.mk [])), 0, 0)
  else
    need (0 ≤ w64 (n_1 - 1) ∧ w64 (n_1 - 1) < f_0.Objects.length) <|
    some (ix f_0.Objects (w64 (n_1 - 1)), 0, 0)
def ir_ref19_Get : IC :=
 (.seq (.reg none [i1 2 (.boxL 6 (.t 0)),
 i1 4 (.allocL [.int .i64 0, .int .i64 0, .str [], .sl true 4 0 [], .bool false, .str []]),
 i1 5 (.mov false (.c (.int .i64 0))),
 i1 6 (.mov false (.c (.int .i64 0)))] [1, 2, 4])
 (.seq (.reg none [i1 7 (.allocL [.int .i64 0, .int .i64 0, .str [], .sl true 4 0 [], .bool false, .str []])] [1, 2, 4, 7])
 (.seq (.seq (.reg none [i1 16 (.fieldAddr 0 (.t 2)),
 i1 17 (.load 1 false (.t 16))] [1, 2, 4, 7, 17])
 (.cond (.t 17) (.seq (.seq (.reg none [mv 18 1,
 i1 19 (.bin .lss (.t 18) (.c (.int .i64 1))),
 mv 20 19,
 mvg 21 1 20 false,
 i1g 22 20 false (.fieldAddr 1 (.t 2)),
 i1g 23 20 false (.load 1 false (.t 22)),
 i1g 24 20 false (.len 0 (.t 23)),
 i1g 25 20 false (.bin .gtr (.t 21) (.t 24)),
 i1 26 (.pick (.t 20) (.c (.bool true)) (.t 25))] [1, 2, 4, 7, 26])
 (.cond (.t 26) (.seq (.reg none [i1 27 (.load 6 true (.t 7)),
 i0 (.store 6 (.t 4) (.t 27)),
 i1 5 (.mov false (.c (.int .i64 0))),
 i1 6 (.mov false (.c (.int .i64 0)))] [4, 5, 6])
 .ret)
 .skip))
 (.seq (.reg none [i1 28 (.fieldAddr 1 (.t 2)),
 i1 29 (.load 1 false (.t 28)),
 mv 30 1,
 i1 31 (.bin .sub (.t 30) (.c (.int .i64 1))),
 i1 32 (.indexAddr [.int .i64 0, .int .i64 0, .str [], .sl false 4 0 [], .bool false, .str []] (.t 29) (.t 31)),
 i1 33 (.load 6 true (.t 32)),
 i0 (.store 6 (.t 4) (.t 33)),
 i1 5 (.mov false (.c (.int .i64 0))),
 i1 6 (.mov false (.c (.int .i64 0)))] [4, 5, 6])
 .ret))
 .skip))
 (.seq (.reg none [i1 35 (.fieldAddr 4 (.t 2)),
 i1 36 (.load 2 true (.t 35)),
 mv 37 1,
 i1 38 (.call 59 [(.t 36), (.t 37)]),
 mv 34 38,
 i1 39 (.extract (.t 34) 0),
 i1 40 (.extract (.t 34) 1),
 mv 8 39,
 mv 9 40] [1, 2, 4, 7, 8, 9])
 (.seq (.seq (.reg none [mv 41 9,
 i1 42 (.un .not (.t 41))] [1, 2, 4, 7, 8, 42])
 (.cond (.t 42) (.seq (.reg none [i1 43 (.load 6 true (.t 7)),
 i0 (.store 6 (.t 4) (.t 43)),
 i1 5 (.mov false (.c (.int .i64 0))),
 i1 6 (.mov false (.c (.int .i64 0)))] [4, 5, 6])
 .ret)
 .skip))
 (.seq (.seq (.reg none [mv 44 8,
 i1 45 (.fieldAddr 2 (.t 2)),
 i1 46 (.fieldAddr 0 (.t 45)),
 i1 47 (.load 1 false (.t 46)),
 i1 48 (.len 0 (.t 47)),
 i1 49 (.bin .geq (.t 44) (.t 48))] [1, 2, 4, 7, 8, 49])
 (.cond (.t 49) (.seq (.reg none [i1 50 (.load 6 true (.t 7)),
 i0 (.store 6 (.t 4) (.t 50)),
 i1 5 (.mov false (.c (.int .i64 0))),
 i1 6 (.mov false (.c (.int .i64 18)))] [4, 5, 6])
 .ret)
 .skip))
 (.seq (.reg none [i1 52 (.fieldAddr 2 (.t 2)),
 i1 53 (.load 2 true (.t 52)),
 mv 54 8,
 i1 55 (.call 60 [(.t 53), (.t 54)]),
 mv 51 55,
 i1 56 (.extract (.t 51) 0),
 i1 57 (.extract (.t 51) 1),
 mt 10 56,
 mv 11 57] [1, 2, 4, 7, 8, 10, 11])
 (.seq (.reg none [mt 59 10,
 mv 60 11,
 i1 61 (.call 61 [(.t 59), (.c (.int .i64 0)), (.t 60)]),
 mv 58 61,
 i1 62 (.extract (.t 58) 0),
 i1 63 (.extract (.t 58) 1),
 i1 64 (.extract (.t 58) 2),
 i1 65 (.extract (.t 58) 3),
 i1 13 (.allocL [.int .i64 0, .int .i64 0, .str [], .sl true 4 0 [], .bool false, .str []]),
 mv 12 62,
 i0 (.store 6 (.t 13) (.t 63)),
 mv 14 64,
 mv 15 65] [1, 2, 4, 7, 8, 12, 13, 15])
 (.seq (.seq (.reg none [mv 66 15,
 i1 67 (.bin .eql (.t 66) (.c (.int .i64 6)))] [1, 2, 4, 7, 8, 12, 13, 15, 67])
 (.cond (.t 67) (.seq (.reg (some 5) [i1 68 (.load 6 true (.t 7)),
 i1 69 (.fieldAddr 2 (.t 2)),
 i1 70 (.load 2 true (.t 69)),
 mv 71 8,
 i1 72 (.call 62 [(.t 70), (.t 71)]),
 i0 (.store 6 (.t 4) (.t 68)),
 mv 5 72,
 i1 6 (.mov false (.c (.int .i64 6)))] [4, 5, 6])
 .ret)
 .skip))
 (.seq (.seq (.reg none [mv 73 15,
 i1 74 (.bin .neq (.t 73) (.c (.int .i64 0))),
 mv 75 74,
 mvg 76 12 75 false,
 mvg 77 1 75 false,
 i1g 78 75 false (.bin .neq (.t 76) (.t 77)),
 i1 79 (.pick (.t 75) (.c (.bool true)) (.t 78))] [4, 7, 13, 79])
 (.cond (.t 79) (.seq (.reg none [i1 80 (.load 6 true (.t 7)),
 i0 (.store 6 (.t 4) (.t 80)),
 i1 5 (.mov false (.c (.int .i64 0))),
 i1 6 (.mov false (.c (.int .i64 18)))] [4, 5, 6])
 .ret)
 .skip))
 (.seq (.reg none [i1 81 (.load 6 true (.t 13)),
 i0 (.store 6 (.t 4) (.t 81)),
 i1 5 (.mov false (.c (.int .i64 0))),
 i1 6 (.mov false (.c (.int .i64 0)))] [4, 5, 6])
 .ret)))))))))))
def res_ref19_Get : List IRes := [⟨4, false, some (6, true)⟩, ⟨5, true, none⟩, ⟨6, true, none⟩]
theorem is_ref19_Get : fnIs Go.Proofs.Tryz.prog 35 82 res_ref19_Get ir_ref19_Get = true := by kernel_rfl
theorem ref19_Get_fn {f_0 n_1} {s : Store} {Q : List AV → Store → Prop}  : ok (ref19_Get f_0 n_1) (fun r => Q [.agg [.int .i64 r.1.V.Kind, .int .i64 r.1.V.N, .str r.1.V.S.b, .sl false 4 r.1.V.L.length (flat r.1.V.L), .bool r.1.Stream, .str r.1.Data.b], .int .i64 r.2.1, .int .i64 r.2.2] s) → FN Go.Proofs.Tryz.prog 35 [.agg [.bool true, .sl false 6 f_0.Objects.length (flat f_0.Objects), .sl false 1 f_0.Bytes.B.length (flat f_0.Bytes.B), .sl false 1 f_0.Bytes.Known.length (flat f_0.Bytes.Known), .sl false 1 f_0.Table.Places.length (flat f_0.Table.Places), .int .i64 f_0.Table.Root], .int .i64 n_1] s Q := by
  intro h
  refine FN.of (draw_ok mix) is_ref19_Get rfl (Nat.le_of_ble_eq_true rfl) ?_
  revert h
  rw [ir_ref19_Get, res_ref19_Get, ref19_Get]
  repeat' (first
    | with_reducible exact tt_to
    | with_reducible refine lit_t ?_
    | with_reducible refine lit_t2 ?_
    | with_reducible refine and_to ?_ ?_
    | with_reducible refine im_to ?_
    | simp -implicitDefEqProofs only [go_sem, start, startE, resVs, resV, resC, allV, retK, Nat.reduceBEq, Nat.reduceAdd, Nat.reduceMul, Nat.reduceLeDiff, Nat.reduceEqDiff, Nat.reduceBNe, Nat.ble_eq, UInt8.reduceToNat])
theorem ref19_Get_fe {f_0 n_1} {s : Store} {r : api_Object × Int × Int}  (h : ref19_Get f_0 n_1 = some r) : FE Go.Proofs.Tryz.prog 35 [.agg [.bool true, .sl false 6 f_0.Objects.length (flat f_0.Objects), .sl false 1 f_0.Bytes.B.length (flat f_0.Bytes.B), .sl false 1 f_0.Bytes.Known.length (flat f_0.Bytes.Known), .sl false 1 f_0.Table.Places.length (flat f_0.Table.Places), .int .i64 f_0.Table.Root], .int .i64 n_1] s [.agg [.int .i64 r.1.V.Kind, .int .i64 r.1.V.N, .str r.1.V.S.b, .sl false 4 r.1.V.L.length (flat r.1.V.L), .bool r.1.Stream, .str r.1.Data.b], .int .i64 r.2.1, .int .i64 r.2.2] s := ref19_Get_fn   ⟨r, h, rfl, rfl⟩
/-- catchword/catchwordref11.Find -/
def ref11_Find (v_0 : api_Value) (key_1 : Str) : Option (Int) :=
  jnS (
    bndS (
      iter (fun (k2 : Int) =>
        if (v_0.Kind == 7) && (decide (k2 < (v_0.L.length : Int))) then
          need (0 ≤ k2 ∧ k2 < v_0.L.length) <|
          need ((((ix v_0.L k2).Kind) == 5) = true → 0 ≤ k2 ∧ k2 < v_0.L.length) <|
          if (((ix v_0.L k2).Kind) == 5) && (((ix v_0.L k2).S).b == key_1.b) then
            some (.inr (.inr k2))
          else
            some (.inl (w64 (k2 + 2)))
        else
          some (.inr (.inl ()))) 0) (fun (_ : Unit) =>
      some (.inl ()))
    (fun (t3 : Int) => some (.inr t3))) (fun (_ : Unit) =>
    some (-1))
  (fun (t1 : Int) => some t1)
def ir_ref11_Find : IC :=
 (.seq (.reg none [i1 2 (.boxL 4 (.t 0)),
 i1 4 (.mov false (.c (.int .i64 0)))] [1, 2])
 (.join [] (.seq (.reg none [i1 5 (.mov false (.c (.int .i64 0)))] [1, 2, 5])
 (.block 0 (.loop [(1, false), (2, false), (5, false)] (.seq (.seq (.reg none [i1 6 (.fieldAddr 0 (.t 2)),
 i1 7 (.load 1 false (.t 6)),
 i1 8 (.bin .eql (.t 7) (.c (.int .i64 7))),
 mv 9 8,
 mvg 10 5 9 true,
 i1g 11 9 true (.fieldAddr 3 (.t 2)),
 i1g 12 9 true (.load 1 false (.t 11)),
 i1g 13 9 true (.len 0 (.t 12)),
 i1g 14 9 true (.bin .lss (.t 10) (.t 13)),
 i1 15 (.pick (.t 9) (.t 14) (.c (.bool false)))] [1, 2, 5, 15])
 (.cond (.t 15) .skip
 (.exit 0)))
 (.seq (.block 1 (.seq (.reg none [i1 18 (.fieldAddr 3 (.t 2)),
 i1 19 (.load 1 false (.t 18)),
 mv 20 5,
 i1 21 (.indexAddr [.int .i64 0, .int .i64 0, .str [], .sl false 4 0 []] (.t 19) (.t 20)),
 i1 22 (.fieldAddr 0 (.t 21)),
 i1 23 (.load 1 false (.t 22)),
 i1 24 (.bin .eql (.t 23) (.c (.int .i64 5))),
 mv 25 24,
 i1g 26 25 true (.fieldAddr 3 (.t 2)),
 i1g 27 25 true (.load 1 false (.t 26)),
 mvg 28 5 25 true,
 i1g 29 25 true (.indexAddr [.int .i64 0, .int .i64 0, .str [], .sl false 4 0 []] (.t 27) (.t 28)),
 i1g 30 25 true (.fieldAddr 2 (.t 29)),
 i1g 31 25 true (.load 1 false (.t 30)),
 mvg 32 1 25 true,
 i1g 33 25 true (.bin .eql (.t 31) (.t 32)),
 i1 34 (.pick (.t 25) (.t 33) (.c (.bool false)))] [1, 2, 5, 34])
 (.cond (.t 34) (.seq (.reg none [mv 35 5,
 mv 4 35] [4])
 .ret)
 .skip)))
 (.reg none [mv 16 5,
 i1 17 (.bin .add (.t 16) (.c (.int .i64 2))),
 mv 5 17] [1, 2, 5]))))))
 (.seq (.reg none [i1 4 (.mov false (.c (.int .i64 (-1))))] [4])
 .ret)))
def res_ref11_Find : List IRes := [⟨4, true, none⟩]
theorem is_ref11_Find : fnIs Go.Proofs.Tryz.prog 88 36 res_ref11_Find ir_ref11_Find = true := by kernel_rfl
theorem ref11_Find_fn {v_0 key_1} {s : Store} {Q : List AV → Store → Prop}  : ok (ref11_Find v_0 key_1) (fun r => Q [.int .i64 r] s) → FN Go.Proofs.Tryz.prog 88 [.agg [.int .i64 v_0.Kind, .int .i64 v_0.N, .str v_0.S.b, .sl false 4 v_0.L.length (flat v_0.L)], .str key_1.b] s Q := by
  intro h
  refine FN.of (draw_ok mix) is_ref11_Find rfl (Nat.le_of_ble_eq_true rfl) ?_
  revert h
  rw [ir_ref11_Find, res_ref11_Find, ref11_Find]
  repeat' (first
    | with_reducible exact tt_to
    | with_reducible refine and_to ?_ ?_
    | with_reducible refine im_to ?_
    | ((with_reducible refine iter_to (fun (k2 : Int) => ⟨[(1, .str key_1.b), (2, .loc [.int .i64 v_0.Kind, .int .i64 v_0.N, .str v_0.S.b, .sl false 4 v_0.L.length (flat v_0.L)]), (5, .int .i64 k2)], [], s⟩) ?_ ?_); (first | exact rfl | simp -implicitDefEqProofs only [go_sem, start, startE, resVs, resV, resC, allV, retK, Nat.reduceBEq, Nat.reduceAdd, Nat.reduceMul, Nat.reduceLeDiff, Nat.reduceEqDiff, Nat.reduceBNe, Nat.ble_eq, UInt8.reduceToNat]); rintro J k2)
    | ((with_reducible refine join_toS (fun (_ : Unit) => ⟨[], [], s⟩) (fun J => ?_) ?_); rotate_left; rintro _)
    | simp -implicitDefEqProofs only [go_sem, start, startE, resVs, resV, resC, allV, retK, Nat.reduceBEq, Nat.reduceAdd, Nat.reduceMul, Nat.reduceLeDiff, Nat.reduceEqDiff, Nat.reduceBNe, Nat.ble_eq, UInt8.reduceToNat])
theorem ref11_Find_fe {v_0 key_1} {s : Store} {r : Int}  (h : ref11_Find v_0 key_1 = some r) : FE Go.Proofs.Tryz.prog 88 [.agg [.int .i64 v_0.Kind, .int .i64 v_0.N, .str v_0.S.b, .sl false 4 v_0.L.length (flat v_0.L)], .str key_1.b] s [.int .i64 r] s := ref11_Find_fn   ⟨r, h, rfl, rfl⟩
/-- catchword/catchwordref11.Get -/
def ref11_Get (v_0 : api_Value) (key_1 : Str) : Option (api_Value × Bool) :=
  bnd (ref11_Find v_0 key_1) fun r1 =>
  if decide (r1 < 0) then
    some ((api_Value.mk 0 0 (Str.mk []) ([] : List api_Value)), false)
  else
    if r1 == (w64 ((v_0.L.length : Int) - 1)) then
      some ((api_Value.mk 0 0 (Str.mk []) ([] : List api_Value)), true)
    else
      need (0 ≤ w64 (r1 + 1) ∧ w64 (r1 + 1) < v_0.L.length) <|
      some (ix v_0.L (w64 (r1 + 1)), true)
def ir_ref11_Get : IC :=
 (.seq (.reg none [i1 2 (.boxL 4 (.t 0)),
 i1 4 (.allocL [.int .i64 0, .int .i64 0, .str [], .sl true 4 0 []]),
 i1 5 (.mov false (.c (.bool false)))] [1, 2, 4])
 (.seq (.reg none [i1 7 (.load 4 true (.t 2)),
 mv 8 1,
 i1 9 (.call 88 [(.t 7), (.t 8)]),
 mv 6 9] [2, 4, 6])
 (.seq (.seq (.reg none [mv 10 6,
 i1 11 (.bin .lss (.t 10) (.c (.int .i64 0)))] [2, 4, 6, 11])
 (.cond (.t 11) (.seq (.reg none [i1 12 (.build [.int .i64 0, .int .i64 0, .str [], .sl true 4 0 []] []),
 i0 (.store 4 (.t 4) (.t 12)),
 i1 5 (.mov false (.c (.bool false)))] [4, 5])
 .ret)
 .skip))
 (.seq (.seq (.reg none [mv 13 6,
 i1 14 (.fieldAddr 3 (.t 2)),
 i1 15 (.load 1 false (.t 14)),
 i1 16 (.len 0 (.t 15)),
 i1 17 (.bin .sub (.t 16) (.c (.int .i64 1))),
 i1 18 (.bin .eql (.t 13) (.t 17))] [2, 4, 6, 18])
 (.cond (.t 18) (.seq (.reg none [i1 19 (.build [.int .i64 0, .int .i64 0, .str [], .sl true 4 0 []] []),
 i0 (.store 4 (.t 4) (.t 19)),
 i1 5 (.mov false (.c (.bool true)))] [4, 5])
 .ret)
 .skip))
 (.seq (.reg none [i1 20 (.fieldAddr 3 (.t 2)),
 i1 21 (.load 1 false (.t 20)),
 mv 22 6,
 i1 23 (.bin .add (.t 22) (.c (.int .i64 1))),
 i1 24 (.indexAddr [.int .i64 0, .int .i64 0, .str [], .sl false 4 0 []] (.t 21) (.t 23)),
 i1 25 (.load 4 true (.t 24)),
 i0 (.store 4 (.t 4) (.t 25)),
 i1 5 (.mov false (.c (.bool true)))] [4, 5])
 .ret)))))
def res_ref11_Get : List IRes := [⟨4, false, some (4, true)⟩, ⟨5, true, none⟩]
theorem is_ref11_Get : fnIs Go.Proofs.Tryz.prog 72 26 res_ref11_Get ir_ref11_Get = true := by kernel_rfl
theorem ref11_Get_fn {v_0 key_1} {s : Store} {Q : List AV → Store → Prop}  : ok (ref11_Get v_0 key_1) (fun r => Q [.agg [.int .i64 r.1.Kind, .int .i64 r.1.N, .str r.1.S.b, .sl false 4 r.1.L.length (flat r.1.L)], .bool r.2] s) → FN Go.Proofs.Tryz.prog 72 [.agg [.int .i64 v_0.Kind, .int .i64 v_0.N, .str v_0.S.b, .sl false 4 v_0.L.length (flat v_0.L)], .str key_1.b] s Q := by
  intro h
  refine FN.of (draw_ok mix) is_ref11_Get rfl (Nat.le_of_ble_eq_true rfl) ?_
  revert h
  rw [ir_ref11_Get, res_ref11_Get, ref11_Get]
  repeat' (first
    | with_reducible exact tt_to
    | with_reducible refine and_to ?_ ?_
    | with_reducible refine im_to ?_
    | with_reducible refine call_to (fun _ (h : ref11_Find v_0 key_1 = some _) => ref11_Find_fe h) (fun r1 => ?_)
    | with_reducible refine call_to_q (fun _ (h : ref11_Find v_0 key_1 = some _) => ref11_Find_fe h) (fun _ => rfl) (fun r1 => ?_)
    | with_reducible refine call_to (fun _ (h : ref11_Find v_0 key_1 = some _) => (by refine FE_cast ?_ (ref11_Find_fe h); simp -implicitDefEqProofs only [go_sem, start, startE, resVs, resV, resC, allV, retK, Nat.reduceBEq, Nat.reduceAdd, Nat.reduceMul, Nat.reduceLeDiff, Nat.reduceEqDiff, Nat.reduceBNe, Nat.ble_eq, UInt8.reduceToNat])) (fun r1 => ?_)
    | with_reducible refine call_to_q (fun _ (h : ref11_Find v_0 key_1 = some _) => (by refine FE_cast ?_ (ref11_Find_fe h); simp -implicitDefEqProofs only [go_sem, start, startE, resVs, resV, resC, allV, retK, Nat.reduceBEq, Nat.reduceAdd, Nat.reduceMul, Nat.reduceLeDiff, Nat.reduceEqDiff, Nat.reduceBNe, Nat.ble_eq, UInt8.reduceToNat])) (fun _ => rfl) (fun r1 => ?_)
    | simp -implicitDefEqProofs only [go_sem, start, startE, resVs, resV, resC, allV, retK, Nat.reduceBEq, Nat.reduceAdd, Nat.reduceMul, Nat.reduceLeDiff, Nat.reduceEqDiff, Nat.reduceBNe, Nat.ble_eq, UInt8.reduceToNat])
theorem ref11_Get_fe {v_0 key_1} {s : Store} {r : api_Value × Bool}  (h : ref11_Get v_0 key_1 = some r) : FE Go.Proofs.Tryz.prog 72 [.agg [.int .i64 v_0.Kind, .int .i64 v_0.N, .str v_0.S.b, .sl false 4 v_0.L.length (flat v_0.L)], .str key_1.b] s [.agg [.int .i64 r.1.Kind, .int .i64 r.1.N, .str r.1.S.b, .sl false 4 r.1.L.length (flat r.1.L)], .bool r.2] s := ref11_Get_fn   ⟨r, h, rfl, rfl⟩
/-- catchword/catchwordref20.Typed -/
def ref20_Typed (o_0 : api_Object) (name_1 : Str) : Option (Bool) :=
  bnd (ref11_Get o_0.V (Str.mk [84, 121, 112, 101])) fun r1 =>
  some (((r1.2 && !o_0.Stream) && (r1.1.Kind == 5)) && (r1.1.S.b == name_1.b))
def ir_ref20_Typed : IC :=
 (.seq (.reg none [i1 2 (.boxL 6 (.t 0)),
 i1 4 (.mov false (.c (.bool false)))] [1, 2])
 (.seq (.reg none [i1 8 (.fieldAddr 0 (.t 2)),
 i1 9 (.load 4 true (.t 8)),
 i1 10 (.call 72 [(.t 9), (.c (.str [84, 121, 112, 101]))]),
 i1 7 (.movT (.t 10)),
 i1 11 (.extract (.t 7) 0),
 i1 12 (.extract (.t 7) 1),
 i1 5 (.allocL [.int .i64 0, .int .i64 0, .str [], .sl true 4 0 []]),
 i0 (.store 4 (.t 5) (.t 11)),
 mv 6 12] [1, 2, 5, 6])
 (.seq (.reg none [mv 13 6,
 mv 14 13,
 i1g 15 14 true (.fieldAddr 4 (.t 2)),
 i1g 16 14 true (.load 1 false (.t 15)),
 i1g 17 14 true (.un .not (.t 16)),
 i1 18 (.pick (.t 14) (.t 17) (.c (.bool false))),
 mv 19 18,
 i1g 20 19 true (.fieldAddr 0 (.t 5)),
 i1g 21 19 true (.load 1 false (.t 20)),
 i1g 22 19 true (.bin .eql (.t 21) (.c (.int .i64 5))),
 i1 23 (.pick (.t 19) (.t 22) (.c (.bool false))),
 mv 24 23,
 i1g 25 24 true (.fieldAddr 2 (.t 5)),
 i1g 26 24 true (.load 1 false (.t 25)),
 mvg 27 1 24 true,
 i1g 28 24 true (.bin .eql (.t 26) (.t 27)),
 i1 29 (.pick (.t 24) (.t 28) (.c (.bool false))),
 mv 4 29] [4])
 .ret)))
def res_ref20_Typed : List IRes := [⟨4, true, none⟩]
theorem is_ref20_Typed : fnIs Go.Proofs.Tryz.prog 73 30 res_ref20_Typed ir_ref20_Typed = true := by kernel_rfl
theorem ref20_Typed_fn {o_0 name_1} {s : Store} {Q : List AV → Store → Prop}  : ok (ref20_Typed o_0 name_1) (fun r => Q [.bool r] s) → FN Go.Proofs.Tryz.prog 73 [.agg [.int .i64 o_0.V.Kind, .int .i64 o_0.V.N, .str o_0.V.S.b, .sl false 4 o_0.V.L.length (flat o_0.V.L), .bool o_0.Stream, .str o_0.Data.b], .str name_1.b] s Q := by
  intro h
  refine FN.of (draw_ok mix) is_ref20_Typed rfl (Nat.le_of_ble_eq_true rfl) ?_
  revert h
  rw [ir_ref20_Typed, res_ref20_Typed, ref20_Typed]
  repeat' (first
    | with_reducible exact tt_to
    | with_reducible refine and_to ?_ ?_
    | with_reducible refine im_to ?_
    | with_reducible refine call_to (fun _ (h : ref11_Get o_0.V (Str.mk [84, 121, 112, 101]) = some _) => ref11_Get_fe h) (fun r1 => ?_)
    | with_reducible refine call_to_q (fun _ (h : ref11_Get o_0.V (Str.mk [84, 121, 112, 101]) = some _) => ref11_Get_fe h) (fun _ => rfl) (fun r1 => ?_)
    | with_reducible refine call_to (fun _ (h : ref11_Get o_0.V (Str.mk [84, 121, 112, 101]) = some _) => (by refine FE_cast ?_ (ref11_Get_fe h); simp -implicitDefEqProofs only [go_sem, start, startE, resVs, resV, resC, allV, retK, Nat.reduceBEq, Nat.reduceAdd, Nat.reduceMul, Nat.reduceLeDiff, Nat.reduceEqDiff, Nat.reduceBNe, Nat.ble_eq, UInt8.reduceToNat])) (fun r1 => ?_)
    | with_reducible refine call_to_q (fun _ (h : ref11_Get o_0.V (Str.mk [84, 121, 112, 101]) = some _) => (by refine FE_cast ?_ (ref11_Get_fe h); simp -implicitDefEqProofs only [go_sem, start, startE, resVs, resV, resC, allV, retK, Nat.reduceBEq, Nat.reduceAdd, Nat.reduceMul, Nat.reduceLeDiff, Nat.reduceEqDiff, Nat.reduceBNe, Nat.ble_eq, UInt8.reduceToNat])) (fun _ => rfl) (fun r1 => ?_)
    | simp -implicitDefEqProofs only [go_sem, start, startE, resVs, resV, resC, allV, retK, Nat.reduceBEq, Nat.reduceAdd, Nat.reduceMul, Nat.reduceLeDiff, Nat.reduceEqDiff, Nat.reduceBNe, Nat.ble_eq, UInt8.reduceToNat])
theorem ref20_Typed_fe {o_0 name_1} {s : Store} {r : Bool}  (h : ref20_Typed o_0 name_1 = some r) : FE Go.Proofs.Tryz.prog 73 [.agg [.int .i64 o_0.V.Kind, .int .i64 o_0.V.N, .str o_0.V.S.b, .sl false 4 o_0.V.L.length (flat o_0.V.L), .bool o_0.Stream, .str o_0.Data.b], .str name_1.b] s [.bool r] s := ref20_Typed_fn   ⟨r, h, rfl, rfl⟩
/-- catchword/catchwordref20.Node -/
def ref20_Node (o_0 : api_Object) : Option (Int × (List Int) × Bool) :=
  bnd (ref11_Get o_0.V (Str.mk [75, 105, 100, 115])) fun r1 =>
  bnd (ref11_Get o_0.V (Str.mk [67, 111, 117, 110, 116])) fun r2 =>
  bnd (ref20_Typed o_0 (Str.mk [80, 97, 103, 101, 115])) fun r3 =>
  if ((((!r3 || (r1.1.Kind != 6)) || ((r1.1.L.length : Int) == 0)) || (r2.1.Kind != 2)) || (decide (r2.1.N < (r1.1.L.length : Int)))) || (decide (r2.1.N > 2048)) then
    some (0, ([] : List Int), false)
  else
    jnS (
      bndS (
        iter (fun ((out9, k10) : (List Int) × Int) =>
          if decide (k10 < (r1.1.L.length : Int)) then
            need (0 ≤ k10 ∧ k10 < r1.1.L.length) <|
            if ((ix r1.1.L k10).Kind) != 8 then
              some (.inr (.inr ((0 : Int), ([] : List Int), false)))
            else
              need (0 ≤ k10 ∧ k10 < r1.1.L.length) <|
              need ((out9.length + [(ix r1.1.L k10).N].length) * 8 ≤ room) <|
              some (.inl (out9 ++ [(ix r1.1.L k10).N], w64 (k10 + 1)))
          else
            some (.inr (.inl out9))) (([] : List Int), 0)) (fun (out12 : (List Int)) =>
        some (.inl out12))
      (fun ((t13, t14, t15) : Int × (List Int) × Bool) => some (.inr (t13, t14, t15)))) (fun (out5 : (List Int)) =>
      some (r2.1.N, out5, true))
    (fun ((t6, t7, t8) : Int × (List Int) × Bool) => some (t6, t7, t8))
def ir_ref20_Node : IC :=
 (.seq (.reg none [i1 1 (.boxL 6 (.t 0)),
 i1 2 (.mov false (.c (.int .i64 0))),
 i1 3 (.mov true (.c (.sl true 1 0 []))),
 i1 4 (.mov false (.c (.bool false)))] [1])
 (.seq (.reg none [i1 12 (.fieldAddr 0 (.t 1)),
 i1 13 (.load 4 true (.t 12)),
 i1 14 (.call 72 [(.t 13), (.c (.str [75, 105, 100, 115]))]),
 i1 11 (.movT (.t 14)),
 i1 15 (.extract (.t 11) 0),
 i1 16 (.extract (.t 11) 1),
 i1 5 (.allocL [.int .i64 0, .int .i64 0, .str [], .sl true 4 0 []]),
 i0 (.store 4 (.t 5) (.t 15)),
 mv 6 16] [1, 5])
 (.seq (.reg none [i1 18 (.fieldAddr 0 (.t 1)),
 i1 19 (.load 4 true (.t 18)),
 i1 20 (.call 72 [(.t 19), (.c (.str [67, 111, 117, 110, 116]))]),
 i1 17 (.movT (.t 20)),
 i1 21 (.extract (.t 17) 0),
 i1 22 (.extract (.t 17) 1),
 i1 7 (.allocL [.int .i64 0, .int .i64 0, .str [], .sl true 4 0 []]),
 i0 (.store 4 (.t 7) (.t 21)),
 mv 8 22] [1, 5, 7])
 (.seq (.seq (.reg none [i1 23 (.load 6 true (.t 1)),
 i1 24 (.call 73 [(.t 23), (.c (.str [80, 97, 103, 101, 115]))]),
 i1 25 (.un .not (.t 24)),
 mv 26 25,
 i1g 27 26 false (.fieldAddr 0 (.t 5)),
 i1g 28 26 false (.load 1 false (.t 27)),
 i1g 29 26 false (.bin .neq (.t 28) (.c (.int .i64 6))),
 i1 30 (.pick (.t 26) (.c (.bool true)) (.t 29)),
 mv 31 30,
 i1g 32 31 false (.fieldAddr 3 (.t 5)),
 i1g 33 31 false (.load 1 false (.t 32)),
 i1g 34 31 false (.len 0 (.t 33)),
 i1g 35 31 false (.bin .eql (.t 34) (.c (.int .i64 0))),
 i1 36 (.pick (.t 31) (.c (.bool true)) (.t 35)),
 mv 37 36,
 i1g 38 37 false (.fieldAddr 0 (.t 7)),
 i1g 39 37 false (.load 1 false (.t 38)),
 i1g 40 37 false (.bin .neq (.t 39) (.c (.int .i64 2))),
 i1 41 (.pick (.t 37) (.c (.bool true)) (.t 40)),
 mv 42 41,
 i1g 43 42 false (.fieldAddr 1 (.t 7)),
 i1g 44 42 false (.load 1 false (.t 43)),
 i1g 45 42 false (.fieldAddr 3 (.t 5)),
 i1g 46 42 false (.load 1 false (.t 45)),
 i1g 47 42 false (.len 0 (.t 46)),
 i1g 48 42 false (.bin .lss (.t 44) (.t 47)),
 i1 49 (.pick (.t 42) (.c (.bool true)) (.t 48)),
 mv 50 49,
 i1g 51 50 false (.fieldAddr 1 (.t 7)),
 i1g 52 50 false (.load 1 false (.t 51)),
 i1g 53 50 false (.bin .gtr (.t 52) (.c (.int .i64 2048))),
 i1 54 (.pick (.t 50) (.c (.bool true)) (.t 53))] [5, 7, 54])
 (.cond (.t 54) (.seq (.reg none [i1 2 (.mov false (.c (.int .i64 0))),
 i1 3 (.mov true (.c (.sl true 1 0 []))),
 i1 4 (.mov false (.c (.bool false)))] [2, 3, 4])
 .ret)
 .skip))
 (.seq (.reg none [i1 9 (.mov true (.c (.sl true 1 0 [])))] [5, 7, 9])
 (.join [(7, false), (9, false)] (.seq (.reg none [i1 10 (.mov false (.c (.int .i64 0)))] [5, 7, 9, 10])
 (.block 0 (.loop [(5, false), (7, false), (9, false), (10, false)] (.seq (.seq (.reg none [mv 55 10,
 i1 56 (.fieldAddr 3 (.t 5)),
 i1 57 (.load 1 false (.t 56)),
 i1 58 (.len 0 (.t 57)),
 i1 59 (.bin .lss (.t 55) (.t 58))] [5, 7, 9, 10, 59])
 (.cond (.t 59) .skip
 (.exit 0)))
 (.seq (.block 1 (.seq (.seq (.reg none [i1 62 (.fieldAddr 3 (.t 5)),
 i1 63 (.load 1 false (.t 62)),
 mv 64 10,
 i1 65 (.indexAddr [.int .i64 0, .int .i64 0, .str [], .sl false 4 0 []] (.t 63) (.t 64)),
 i1 66 (.fieldAddr 0 (.t 65)),
 i1 67 (.load 1 false (.t 66)),
 i1 68 (.bin .neq (.t 67) (.c (.int .i64 8)))] [5, 7, 9, 10, 68])
 (.cond (.t 68) (.seq (.reg none [i1 2 (.mov false (.c (.int .i64 0))),
 i1 3 (.mov true (.c (.sl true 1 0 []))),
 i1 4 (.mov false (.c (.bool false)))] [2, 3, 4])
 .ret)
 .skip))
 (.reg none [mt 69 9,
 i1 70 (.fieldAddr 3 (.t 5)),
 i1 71 (.load 1 false (.t 70)),
 mv 72 10,
 i1 73 (.indexAddr [.int .i64 0, .int .i64 0, .str [], .sl false 4 0 []] (.t 71) (.t 72)),
 i1 74 (.fieldAddr 1 (.t 73)),
 i1 75 (.load 1 false (.t 74)),
 i1 76 (.buildSl 1 1 [.int .i64 0] [(0, 1, (.t 75))]),
 i1 77 (.append 1 8 (.t 69) (.t 76)),
 mt 9 77] [5, 7, 9, 10])))
 (.reg none [mv 60 10,
 i1 61 (.bin .add (.t 60) (.c (.int .i64 1))),
 mv 10 61] [5, 7, 9, 10]))))))
 (.seq (.reg none [i1 78 (.fieldAddr 1 (.t 7)),
 i1 79 (.load 1 false (.t 78)),
 mt 80 9,
 mv 2 79,
 mt 3 80,
 i1 4 (.mov false (.c (.bool true)))] [2, 3, 4])
 .ret)))))))
def res_ref20_Node : List IRes := [⟨2, true, none⟩, ⟨3, true, none⟩, ⟨4, true, none⟩]
theorem is_ref20_Node : fnIs Go.Proofs.Tryz.prog 49 81 res_ref20_Node ir_ref20_Node = true := by kernel_rfl
theorem ref20_Node_fn {o_0} {s : Store} {Q : List AV → Store → Prop}  : ok (ref20_Node o_0) (fun r => Q [.int .i64 r.1, .sl true 1 r.2.1.length (flat r.2.1), .bool r.2.2] s) → FN Go.Proofs.Tryz.prog 49 [.agg [.int .i64 o_0.V.Kind, .int .i64 o_0.V.N, .str o_0.V.S.b, .sl false 4 o_0.V.L.length (flat o_0.V.L), .bool o_0.Stream, .str o_0.Data.b]] s Q := by
  intro h
  refine FN.of (draw_ok mix) is_ref20_Node rfl (Nat.le_of_ble_eq_true rfl) ?_
  revert h
  rw [ir_ref20_Node, res_ref20_Node, ref20_Node]
  repeat' (first
    | with_reducible exact tt_to
    | with_reducible refine and_to ?_ ?_
    | with_reducible refine im_to ?_
    | with_reducible refine call_to (fun _ (h : ref11_Get o_0.V (Str.mk [75, 105, 100, 115]) = some _) => ref11_Get_fe h) (fun r1 => ?_)
    | with_reducible refine call_to_q (fun _ (h : ref11_Get o_0.V (Str.mk [75, 105, 100, 115]) = some _) => ref11_Get_fe h) (fun _ => rfl) (fun r1 => ?_)
    | with_reducible refine call_to (fun _ (h : ref11_Get o_0.V (Str.mk [75, 105, 100, 115]) = some _) => (by refine FE_cast ?_ (ref11_Get_fe h); simp -implicitDefEqProofs only [go_sem, start, startE, resVs, resV, resC, allV, retK, Nat.reduceBEq, Nat.reduceAdd, Nat.reduceMul, Nat.reduceLeDiff, Nat.reduceEqDiff, Nat.reduceBNe, Nat.ble_eq, UInt8.reduceToNat])) (fun r1 => ?_)
    | with_reducible refine call_to_q (fun _ (h : ref11_Get o_0.V (Str.mk [75, 105, 100, 115]) = some _) => (by refine FE_cast ?_ (ref11_Get_fe h); simp -implicitDefEqProofs only [go_sem, start, startE, resVs, resV, resC, allV, retK, Nat.reduceBEq, Nat.reduceAdd, Nat.reduceMul, Nat.reduceLeDiff, Nat.reduceEqDiff, Nat.reduceBNe, Nat.ble_eq, UInt8.reduceToNat])) (fun _ => rfl) (fun r1 => ?_)
    | with_reducible refine call_to (fun _ (h : ref11_Get o_0.V (Str.mk [67, 111, 117, 110, 116]) = some _) => ref11_Get_fe h) (fun r2 => ?_)
    | with_reducible refine call_to_q (fun _ (h : ref11_Get o_0.V (Str.mk [67, 111, 117, 110, 116]) = some _) => ref11_Get_fe h) (fun _ => rfl) (fun r2 => ?_)
    | with_reducible refine call_to (fun _ (h : ref11_Get o_0.V (Str.mk [67, 111, 117, 110, 116]) = some _) => (by refine FE_cast ?_ (ref11_Get_fe h); simp -implicitDefEqProofs only [go_sem, start, startE, resVs, resV, resC, allV, retK, Nat.reduceBEq, Nat.reduceAdd, Nat.reduceMul, Nat.reduceLeDiff, Nat.reduceEqDiff, Nat.reduceBNe, Nat.ble_eq, UInt8.reduceToNat])) (fun r2 => ?_)
    | with_reducible refine call_to_q (fun _ (h : ref11_Get o_0.V (Str.mk [67, 111, 117, 110, 116]) = some _) => (by refine FE_cast ?_ (ref11_Get_fe h); simp -implicitDefEqProofs only [go_sem, start, startE, resVs, resV, resC, allV, retK, Nat.reduceBEq, Nat.reduceAdd, Nat.reduceMul, Nat.reduceLeDiff, Nat.reduceEqDiff, Nat.reduceBNe, Nat.ble_eq, UInt8.reduceToNat])) (fun _ => rfl) (fun r2 => ?_)
    | with_reducible refine call_to (fun _ (h : ref20_Typed o_0 (Str.mk [80, 97, 103, 101, 115]) = some _) => ref20_Typed_fe h) (fun r3 => ?_)
    | with_reducible refine call_to_q (fun _ (h : ref20_Typed o_0 (Str.mk [80, 97, 103, 101, 115]) = some _) => ref20_Typed_fe h) (fun _ => rfl) (fun r3 => ?_)
    | with_reducible refine call_to (fun _ (h : ref20_Typed o_0 (Str.mk [80, 97, 103, 101, 115]) = some _) => (by refine FE_cast ?_ (ref20_Typed_fe h); simp -implicitDefEqProofs only [go_sem, start, startE, resVs, resV, resC, allV, retK, Nat.reduceBEq, Nat.reduceAdd, Nat.reduceMul, Nat.reduceLeDiff, Nat.reduceEqDiff, Nat.reduceBNe, Nat.ble_eq, UInt8.reduceToNat])) (fun r3 => ?_)
    | with_reducible refine call_to_q (fun _ (h : ref20_Typed o_0 (Str.mk [80, 97, 103, 101, 115]) = some _) => (by refine FE_cast ?_ (ref20_Typed_fe h); simp -implicitDefEqProofs only [go_sem, start, startE, resVs, resV, resC, allV, retK, Nat.reduceBEq, Nat.reduceAdd, Nat.reduceMul, Nat.reduceLeDiff, Nat.reduceEqDiff, Nat.reduceBNe, Nat.ble_eq, UInt8.reduceToNat])) (fun _ => rfl) (fun r3 => ?_)
    | ((with_reducible refine iter_to (fun ((out9, k10) : (List Int) × Int) => ⟨[(5, .loc [.int .i64 r1.1.Kind, .int .i64 r1.1.N, .str r1.1.S.b, .sl false 4 r1.1.L.length (flat r1.1.L)]), (7, .loc [.int .i64 r2.1.Kind, .int .i64 r2.1.N, .str r2.1.S.b, .sl false 4 r2.1.L.length (flat r2.1.L)]), (9, .sl true 1 out9.length (flat out9)), (10, .int .i64 k10)], [], s⟩) ?_ ?_); (first | exact rfl | simp -implicitDefEqProofs only [go_sem, start, startE, resVs, resV, resC, allV, retK, Nat.reduceBEq, Nat.reduceAdd, Nat.reduceMul, Nat.reduceLeDiff, Nat.reduceEqDiff, Nat.reduceBNe, Nat.ble_eq, UInt8.reduceToNat]); rintro J ⟨out9, k10⟩)
    | ((with_reducible refine join_toS (fun (out5 : (List Int)) => ⟨[(7, .loc [.int .i64 r2.1.Kind, .int .i64 r2.1.N, .str r2.1.S.b, .sl false 4 r2.1.L.length (flat r2.1.L)]), (9, .sl true 1 out5.length (flat out5))], [], s⟩) (fun J => ?_) ?_); rotate_left; rintro out5)
    | simp -implicitDefEqProofs only [go_sem, start, startE, resVs, resV, resC, allV, retK, Nat.reduceBEq, Nat.reduceAdd, Nat.reduceMul, Nat.reduceLeDiff, Nat.reduceEqDiff, Nat.reduceBNe, Nat.ble_eq, UInt8.reduceToNat])
theorem ref20_Node_fe {o_0} {s : Store} {r : Int × (List Int) × Bool}  (h : ref20_Node o_0 = some r) : FE Go.Proofs.Tryz.prog 49 [.agg [.int .i64 o_0.V.Kind, .int .i64 o_0.V.N, .str o_0.V.S.b, .sl false 4 o_0.V.L.length (flat o_0.V.L), .bool o_0.Stream, .str o_0.Data.b]] s [.int .i64 r.1, .sl true 1 r.2.1.length (flat r.2.1), .bool r.2.2] s := ref20_Node_fn   ⟨r, h, rfl, rfl⟩
/-- catchword/catchwordref20.top -/
def ref20_top (f_0 : ref19_File) : Option (Int × api_Object × Int × Int) :=
  bnd (ref19_Get f_0 f_0.Table.Root) fun r1 =>
  if r1.2.2 != 0 then
    some (0, (api_Object.mk (api_Value.mk 0 0 (Str.mk []) ([] : List api_Value)) false (Str.mk [])), r1.2.1, r1.2.2)
  else
    bnd (ref11_Get r1.1.V (Str.mk [80, 97, 103, 101, 115])) fun r2 =>
    bnd (ref20_Typed r1.1 (Str.mk [67, 97, 116, 97, 108, 111, 103])) fun r3 =>
    if !r3 || (r2.1.Kind != 8) then
      some (0, (api_Object.mk (api_Value.mk 0 0 (Str.mk []) ([] : List api_Value)) false (Str.mk [])), 0, 23)
    else
      bnd (ref19_Get f_0 r2.1.N) fun r4 =>
      if r4.2.2 != 0 then
        some (0, (api_Object.mk (api_Value.mk 0 0 (Str.mk []) ([] : List api_Value)) false (Str.mk [])), r4.2.1, r4.2.2)
      else
        bnd (ref20_Node r4.1) fun r5 =>
        if !r5.2.2 then
          some (0, (api_Object.mk (api_Value.mk 0 0 (Str.mk []) ([] : List api_Value)) false (Str.mk [])), 0, 24)
        else
          some (r2.1.N, r4.1, 0, 0)
def ir_ref20_top : IC :=
 (.seq (.reg none [i1 1 (.boxL 6 (.t 0)),
 i1 2 (.mov false (.c (.int .i64 0))),
 i1 3 (.allocL [.int .i64 0, .int .i64 0, .str [], .sl true 4 0 [], .bool false, .str []]),
 i1 4 (.mov false (.c (.int .i64 0))),
 i1 5 (.mov false (.c (.int .i64 0)))] [1, 3])
 (.seq (.reg none [i1 6 (.allocL [.int .i64 0, .int .i64 0, .str [], .sl true 4 0 [], .bool false, .str []])] [1, 3, 6])
 (.seq (.reg none [i1 19 (.load 6 true (.t 1)),
 i1 20 (.fieldAddr 4 (.t 1)),
 i1 21 (.fieldAddr 1 (.t 20)),
 i1 22 (.load 1 false (.t 21)),
 i1 23 (.call 35 [(.t 19), (.t 22)]),
 i1 18 (.movT (.t 23)),
 i1 24 (.extract (.t 18) 0),
 i1 25 (.extract (.t 18) 1),
 i1 26 (.extract (.t 18) 2),
 i1 7 (.allocL [.int .i64 0, .int .i64 0, .str [], .sl true 4 0 [], .bool false, .str []]),
 i0 (.store 6 (.t 7) (.t 24)),
 mv 8 25,
 mv 9 26] [1, 3, 6, 7, 8, 9])
 (.seq (.seq (.reg none [mv 27 9,
 i1 28 (.bin .neq (.t 27) (.c (.int .i64 0)))] [1, 3, 6, 7, 8, 9, 28])
 (.cond (.t 28) (.seq (.regT [3] 7 [i1 29 (.load 6 true (.t 6)),
 mv 30 8,
 mv 31 9,
 i1 2 (.mov false (.c (.int .i64 0))),
 i0 (.store 6 (.t 3) (.t 29)),
 mv 4 30,
 mv 5 31] [2, 3, 4, 5])
 .ret)
 .skip))
 (.seq (.reg none [i1 33 (.fieldAddr 0 (.t 7)),
 i1 34 (.load 4 true (.t 33)),
 i1 35 (.call 72 [(.t 34), (.c (.str [80, 97, 103, 101, 115]))]),
 i1 32 (.movT (.t 35)),
 i1 36 (.extract (.t 32) 0),
 i1 37 (.extract (.t 32) 1),
 i1 10 (.allocL [.int .i64 0, .int .i64 0, .str [], .sl true 4 0 []]),
 i0 (.store 4 (.t 10) (.t 36)),
 mv 11 37] [1, 3, 6, 7, 10])
 (.seq (.seq (.reg none [i1 38 (.load 6 true (.t 7)),
 i1 39 (.call 73 [(.t 38), (.c (.str [67, 97, 116, 97, 108, 111, 103]))]),
 i1 40 (.un .not (.t 39)),
 mv 41 40,
 i1g 42 41 false (.fieldAddr 0 (.t 10)),
 i1g 43 41 false (.load 1 false (.t 42)),
 i1g 44 41 false (.bin .neq (.t 43) (.c (.int .i64 8))),
 i1 45 (.pick (.t 41) (.c (.bool true)) (.t 44))] [1, 3, 6, 10, 45])
 (.cond (.t 45) (.seq (.reg (some 2) [i1 46 (.load 6 true (.t 6)),
 i1 2 (.mov false (.c (.int .i64 0))),
 i0 (.store 6 (.t 3) (.t 46)),
 i1 4 (.mov false (.c (.int .i64 0))),
 i1 5 (.mov false (.c (.int .i64 23)))] [2, 3, 4, 5])
 .ret)
 .skip))
 (.seq (.reg none [i1 48 (.load 6 true (.t 1)),
 i1 49 (.fieldAddr 1 (.t 10)),
 i1 50 (.load 1 false (.t 49)),
 i1 51 (.call 35 [(.t 48), (.t 50)]),
 i1 47 (.movT (.t 51)),
 i1 52 (.extract (.t 47) 0),
 i1 53 (.extract (.t 47) 1),
 i1 54 (.extract (.t 47) 2),
 i1 12 (.allocL [.int .i64 0, .int .i64 0, .str [], .sl true 4 0 [], .bool false, .str []]),
 i0 (.store 6 (.t 12) (.t 52)),
 mv 13 53,
 mv 14 54] [3, 6, 10, 12, 13, 14])
 (.seq (.seq (.reg none [mv 55 14,
 i1 56 (.bin .neq (.t 55) (.c (.int .i64 0)))] [3, 6, 10, 12, 13, 14, 56])
 (.cond (.t 56) (.seq (.regT [3] 7 [i1 57 (.load 6 true (.t 6)),
 mv 58 13,
 mv 59 14,
 i1 2 (.mov false (.c (.int .i64 0))),
 i0 (.store 6 (.t 3) (.t 57)),
 mv 4 58,
 mv 5 59] [2, 3, 4, 5])
 .ret)
 .skip))
 (.seq (.reg none [i1 61 (.load 6 true (.t 12)),
 i1 62 (.call 49 [(.t 61)]),
 i1 60 (.movT (.t 62)),
 i1 63 (.extract (.t 60) 0),
 i1 64 (.extract (.t 60) 1),
 i1 65 (.extract (.t 60) 2),
 mv 15 63,
 mt 16 64,
 mv 17 65] [3, 6, 10, 12, 17])
 (.seq (.seq (.reg none [mv 66 17,
 i1 67 (.un .not (.t 66))] [3, 6, 10, 12, 67])
 (.cond (.t 67) (.seq (.reg (some 2) [i1 68 (.load 6 true (.t 6)),
 i1 2 (.mov false (.c (.int .i64 0))),
 i0 (.store 6 (.t 3) (.t 68)),
 i1 4 (.mov false (.c (.int .i64 0))),
 i1 5 (.mov false (.c (.int .i64 24)))] [2, 3, 4, 5])
 .ret)
 .skip))
 (.seq (.reg (some 4) [i1 69 (.fieldAddr 1 (.t 10)),
 i1 70 (.load 1 false (.t 69)),
 i1 71 (.load 6 true (.t 12)),
 mv 2 70,
 i0 (.store 6 (.t 3) (.t 71)),
 i1 4 (.mov false (.c (.int .i64 0))),
 i1 5 (.mov false (.c (.int .i64 0)))] [2, 3, 4, 5])
 .ret)))))))))))
def res_ref20_top : List IRes := [⟨2, true, none⟩, ⟨3, false, some (6, true)⟩, ⟨4, true, none⟩, ⟨5, true, none⟩]
theorem is_ref20_top : fnIs Go.Proofs.Tryz.prog 48 72 res_ref20_top ir_ref20_top = true := by kernel_rfl
theorem ref20_top_fn {f_0} {s : Store} {Q : List AV → Store → Prop}  : ok (ref20_top f_0) (fun r => Q [.int .i64 r.1, .agg [.int .i64 r.2.1.V.Kind, .int .i64 r.2.1.V.N, .str r.2.1.V.S.b, .sl false 4 r.2.1.V.L.length (flat r.2.1.V.L), .bool r.2.1.Stream, .str r.2.1.Data.b], .int .i64 r.2.2.1, .int .i64 r.2.2.2] s) → FN Go.Proofs.Tryz.prog 48 [.agg [.bool true, .sl false 6 f_0.Objects.length (flat f_0.Objects), .sl false 1 f_0.Bytes.B.length (flat f_0.Bytes.B), .sl false 1 f_0.Bytes.Known.length (flat f_0.Bytes.Known), .sl false 1 f_0.Table.Places.length (flat f_0.Table.Places), .int .i64 f_0.Table.Root]] s Q := by
  intro h
  refine FN.of (draw_ok mix) is_ref20_top rfl (Nat.le_of_ble_eq_true rfl) ?_
  revert h
  rw [ir_ref20_top, res_ref20_top, ref20_top]
  repeat' (first
    | with_reducible exact tt_to
    | ((with_reducible refine b_to ?_ ?_); exact rfl)
    | ((with_reducible refine n_to ?_ ?_); exact rfl)
    | with_reducible refine and_to ?_ ?_
    | with_reducible refine im_to ?_
    | with_reducible refine call_to (fun _ (h : ref19_Get f_0 f_0.Table.Root = some _) => ref19_Get_fe h) (fun r1 => ?_)
    | with_reducible refine call_to_q (fun _ (h : ref19_Get f_0 f_0.Table.Root = some _) => ref19_Get_fe h) (fun _ => rfl) (fun r1 => ?_)
    | with_reducible refine call_to (fun _ (h : ref19_Get f_0 f_0.Table.Root = some _) => (by refine FE_cast ?_ (ref19_Get_fe h); simp -implicitDefEqProofs only [go_sem, start, startE, resVs, resV, resC, allV, retK, Nat.reduceBEq, Nat.reduceAdd, Nat.reduceMul, Nat.reduceLeDiff, Nat.reduceEqDiff, Nat.reduceBNe, Nat.ble_eq, UInt8.reduceToNat])) (fun r1 => ?_)
    | with_reducible refine call_to_q (fun _ (h : ref19_Get f_0 f_0.Table.Root = some _) => (by refine FE_cast ?_ (ref19_Get_fe h); simp -implicitDefEqProofs only [go_sem, start, startE, resVs, resV, resC, allV, retK, Nat.reduceBEq, Nat.reduceAdd, Nat.reduceMul, Nat.reduceLeDiff, Nat.reduceEqDiff, Nat.reduceBNe, Nat.ble_eq, UInt8.reduceToNat])) (fun _ => rfl) (fun r1 => ?_)
    | with_reducible refine call_to (fun _ (h : ref11_Get r1.1.V (Str.mk [80, 97, 103, 101, 115]) = some _) => ref11_Get_fe h) (fun r2 => ?_)
    | with_reducible refine call_to_q (fun _ (h : ref11_Get r1.1.V (Str.mk [80, 97, 103, 101, 115]) = some _) => ref11_Get_fe h) (fun _ => rfl) (fun r2 => ?_)
    | with_reducible refine call_to (fun _ (h : ref11_Get r1.1.V (Str.mk [80, 97, 103, 101, 115]) = some _) => (by refine FE_cast ?_ (ref11_Get_fe h); simp -implicitDefEqProofs only [go_sem, start, startE, resVs, resV, resC, allV, retK, Nat.reduceBEq, Nat.reduceAdd, Nat.reduceMul, Nat.reduceLeDiff, Nat.reduceEqDiff, Nat.reduceBNe, Nat.ble_eq, UInt8.reduceToNat])) (fun r2 => ?_)
    | with_reducible refine call_to_q (fun _ (h : ref11_Get r1.1.V (Str.mk [80, 97, 103, 101, 115]) = some _) => (by refine FE_cast ?_ (ref11_Get_fe h); simp -implicitDefEqProofs only [go_sem, start, startE, resVs, resV, resC, allV, retK, Nat.reduceBEq, Nat.reduceAdd, Nat.reduceMul, Nat.reduceLeDiff, Nat.reduceEqDiff, Nat.reduceBNe, Nat.ble_eq, UInt8.reduceToNat])) (fun _ => rfl) (fun r2 => ?_)
    | with_reducible refine call_to (fun _ (h : ref20_Typed r1.1 (Str.mk [67, 97, 116, 97, 108, 111, 103]) = some _) => ref20_Typed_fe h) (fun r3 => ?_)
    | with_reducible refine call_to_q (fun _ (h : ref20_Typed r1.1 (Str.mk [67, 97, 116, 97, 108, 111, 103]) = some _) => ref20_Typed_fe h) (fun _ => rfl) (fun r3 => ?_)
    | with_reducible refine call_to (fun _ (h : ref20_Typed r1.1 (Str.mk [67, 97, 116, 97, 108, 111, 103]) = some _) => (by refine FE_cast ?_ (ref20_Typed_fe h); simp -implicitDefEqProofs only [go_sem, start, startE, resVs, resV, resC, allV, retK, Nat.reduceBEq, Nat.reduceAdd, Nat.reduceMul, Nat.reduceLeDiff, Nat.reduceEqDiff, Nat.reduceBNe, Nat.ble_eq, UInt8.reduceToNat])) (fun r3 => ?_)
    | with_reducible refine call_to_q (fun _ (h : ref20_Typed r1.1 (Str.mk [67, 97, 116, 97, 108, 111, 103]) = some _) => (by refine FE_cast ?_ (ref20_Typed_fe h); simp -implicitDefEqProofs only [go_sem, start, startE, resVs, resV, resC, allV, retK, Nat.reduceBEq, Nat.reduceAdd, Nat.reduceMul, Nat.reduceLeDiff, Nat.reduceEqDiff, Nat.reduceBNe, Nat.ble_eq, UInt8.reduceToNat])) (fun _ => rfl) (fun r3 => ?_)
    | with_reducible refine call_to (fun _ (h : ref19_Get f_0 r2.1.N = some _) => ref19_Get_fe h) (fun r4 => ?_)
    | with_reducible refine call_to_q (fun _ (h : ref19_Get f_0 r2.1.N = some _) => ref19_Get_fe h) (fun _ => rfl) (fun r4 => ?_)
    | with_reducible refine call_to (fun _ (h : ref19_Get f_0 r2.1.N = some _) => (by refine FE_cast ?_ (ref19_Get_fe h); simp -implicitDefEqProofs only [go_sem, start, startE, resVs, resV, resC, allV, retK, Nat.reduceBEq, Nat.reduceAdd, Nat.reduceMul, Nat.reduceLeDiff, Nat.reduceEqDiff, Nat.reduceBNe, Nat.ble_eq, UInt8.reduceToNat])) (fun r4 => ?_)
    | with_reducible refine call_to_q (fun _ (h : ref19_Get f_0 r2.1.N = some _) => (by refine FE_cast ?_ (ref19_Get_fe h); simp -implicitDefEqProofs only [go_sem, start, startE, resVs, resV, resC, allV, retK, Nat.reduceBEq, Nat.reduceAdd, Nat.reduceMul, Nat.reduceLeDiff, Nat.reduceEqDiff, Nat.reduceBNe, Nat.ble_eq, UInt8.reduceToNat])) (fun _ => rfl) (fun r4 => ?_)
    | with_reducible refine call_to (fun _ (h : ref20_Node r4.1 = some _) => ref20_Node_fe h) (fun r5 => ?_)
    | with_reducible refine call_to_q (fun _ (h : ref20_Node r4.1 = some _) => ref20_Node_fe h) (fun _ => rfl) (fun r5 => ?_)
    | with_reducible refine call_to (fun _ (h : ref20_Node r4.1 = some _) => (by refine FE_cast ?_ (ref20_Node_fe h); simp -implicitDefEqProofs only [go_sem, start, startE, resVs, resV, resC, allV, retK, Nat.reduceBEq, Nat.reduceAdd, Nat.reduceMul, Nat.reduceLeDiff, Nat.reduceEqDiff, Nat.reduceBNe, Nat.ble_eq, UInt8.reduceToNat])) (fun r5 => ?_)
    | with_reducible refine call_to_q (fun _ (h : ref20_Node r4.1 = some _) => (by refine FE_cast ?_ (ref20_Node_fe h); simp -implicitDefEqProofs only [go_sem, start, startE, resVs, resV, resC, allV, retK, Nat.reduceBEq, Nat.reduceAdd, Nat.reduceMul, Nat.reduceLeDiff, Nat.reduceEqDiff, Nat.reduceBNe, Nat.ble_eq, UInt8.reduceToNat])) (fun _ => rfl) (fun r5 => ?_)
    | simp -implicitDefEqProofs only [go_sem, start, startE, resVs, resV, resC, allV, retK, Nat.reduceBEq, Nat.reduceAdd, Nat.reduceMul, Nat.reduceLeDiff, Nat.reduceEqDiff, Nat.reduceBNe, Nat.ble_eq, UInt8.reduceToNat])
theorem ref20_top_fe {f_0} {s : Store} {r : Int × api_Object × Int × Int}  (h : ref20_top f_0 = some r) : FE Go.Proofs.Tryz.prog 48 [.agg [.bool true, .sl false 6 f_0.Objects.length (flat f_0.Objects), .sl false 1 f_0.Bytes.B.length (flat f_0.Bytes.B), .sl false 1 f_0.Bytes.Known.length (flat f_0.Bytes.Known), .sl false 1 f_0.Table.Places.length (flat f_0.Table.Places), .int .i64 f_0.Table.Root]] s [.int .i64 r.1, .agg [.int .i64 r.2.1.V.Kind, .int .i64 r.2.1.V.N, .str r.2.1.V.S.b, .sl false 4 r.2.1.V.L.length (flat r.2.1.V.L), .bool r.2.1.Stream, .str r.2.1.Data.b], .int .i64 r.2.2.1, .int .i64 r.2.2.2] s := ref20_top_fn   ⟨r, h, rfl, rfl⟩
/-- catchword/catchwordref20.names -/
def ref20_names  : Option ((List Str)) :=
  some [(Str.mk [67, 114, 111, 112, 66, 111, 120]), (Str.mk [77, 101, 100, 105, 97, 66, 111, 120]), (Str.mk [82, 101, 115, 111, 117, 114, 99, 101, 115]), (Str.mk [82, 111, 116, 97, 116, 101])]
def ir_ref20_names : IC :=
 (.seq (.reg none [i1 0 (.mov true (.c (.sl true 1 0 [])))] [])
 (.seq (.reg none [i1 1 (.buildSl 1 4 [.str [], .str [], .str [], .str []] [(0, 1, (.c (.str [67, 114, 111, 112, 66, 111, 120]))), (1, 1, (.c (.str [77, 101, 100, 105, 97, 66, 111, 120]))), (2, 1, (.c (.str [82, 101, 115, 111, 117, 114, 99, 101, 115]))), (3, 1, (.c (.str [82, 111, 116, 97, 116, 101])))]),
 mt 0 1] [0])
 .ret))
def res_ref20_names : List IRes := [⟨0, true, none⟩]
theorem is_ref20_names : fnIs Go.Proofs.Tryz.prog 90 2 res_ref20_names ir_ref20_names = true := by kernel_rfl
theorem ref20_names_fn  {s : Store} {Q : List AV → Store → Prop}  : ok (ref20_names ) (fun r => Q [.sl true 1 r.length (flat r)] s) → FN Go.Proofs.Tryz.prog 90 [] s Q := by
  intro h
  refine FN.of (draw_ok mix) is_ref20_names rfl (Nat.le_of_ble_eq_true rfl) ?_
  revert h
  rw [ir_ref20_names, res_ref20_names, ref20_names]
  repeat' (first
    | with_reducible exact tt_to
    | with_reducible refine and_to ?_ ?_
    | with_reducible refine im_to ?_
    | simp -implicitDefEqProofs only [go_sem, start, startE, resVs, resV, resC, allV, retK, Nat.reduceBEq, Nat.reduceAdd, Nat.reduceMul, Nat.reduceLeDiff, Nat.reduceEqDiff, Nat.reduceBNe, Nat.ble_eq, UInt8.reduceToNat])
theorem ref20_names_fe  {s : Store} {r : (List Str)}  (h : ref20_names  = some r) : FE Go.Proofs.Tryz.prog 90 [] s [.sl true 1 r.length (flat r)] s := ref20_names_fn   ⟨r, h, rfl, rfl⟩
/-- catchword/catchwordref20.Given -/
def ref20_Given (page_0 : api_Value) (way_1 : (List api_Value)) : Option (api_Value) :=
  bnd (ref20_names) fun r1 =>
  jn (
    iter (fun ((out4, k5) : api_Value × Int) =>
      if decide (k5 < (r1.length : Int)) then
        jn (
          need (0 ≤ k5 ∧ k5 < r1.length) <|
          bnd (ref11_Find page_0 (ix r1 k5)) fun r14 =>
          if decide (r14 ≥ 0) then
            some out4
          else
            iter (fun (j15 : Int) =>
              if decide (j15 ≥ 0) then
                need (0 ≤ j15 ∧ j15 < way_1.length) <|
                need (0 ≤ k5 ∧ k5 < r1.length) <|
                bnd (ref11_Get (ix way_1 j15) (ix r1 k5)) fun r22 =>
                if r22.2 then
                  need (0 ≤ k5 ∧ k5 < r1.length) <|
                  need ((out4.L.length + [(api_Value.mk 5 0 (ix r1 k5) ([] : List api_Value)), r22.1].length) * 56 ≤ room) <|
                  some (.inr (api_Value.mk out4.Kind out4.N out4.S (out4.L ++ [(api_Value.mk 5 0 (ix r1 k5) ([] : List api_Value)), r22.1])))
                else
                  some (.inl (w64 (j15 - 1)))
              else
                some (.inr out4)) (w64 ((way_1.length : Int) - 1))) fun (out11 : api_Value) =>
        some (.inl (out11, w64 (k5 + 1)))
      else
        some (.inr out4)) ((api_Value.mk 7 0 (Str.mk []) ([] : List api_Value)), 0)) fun (out3 : api_Value) =>
  some out3
def ir_ref20_Given : IC :=
 (.seq (.reg none [i1 2 (.boxL 4 (.t 0)),
 i1 4 (.allocL [.int .i64 0, .int .i64 0, .str [], .sl true 4 0 []])] [1, 2, 4])
 (.seq (.reg none [i1 11 (.build [.int .i64 0, .int .i64 0, .str [], .arr 0 0 0 0] [(0, 1, (.c (.int .i64 7)))]),
 i1 5 (.allocL [.int .i64 0, .int .i64 0, .str [], .sl true 4 0 []]),
 i0 (.storeN 4 4 (.t 5) (.t 11))] [1, 2, 4, 5])
 (.seq (.reg none [i1 12 (.call 90 []),
 mt 6 12] [1, 2, 4, 5, 6])
 (.join [(4, false), (5, false)] (.seq (.reg none [i1 7 (.mov false (.c (.int .i64 0)))] [1, 2, 4, 5, 6, 7])
 (.block 0 (.loop [(1, true), (2, false), (4, false), (5, false), (6, false), (7, false)] (.seq (.seq (.reg none [mv 13 7,
 mv 14 6,
 i1 15 (.len 0 (.t 14)),
 i1 16 (.bin .lss (.t 13) (.t 15))] [1, 2, 4, 5, 6, 7, 16])
 (.cond (.t 16) .skip
 (.exit 0)))
 (.join [(1, true), (2, false), (4, false), (5, false), (6, false), (7, false)] (.block 1 (.seq (.seq (.reg (some 7) [i1 19 (.load 4 true (.t 2)),
 mv 20 6,
 mv 21 7,
 i1 22 (.indexAddr [.str []] (.t 20) (.t 21)),
 i1 23 (.load 1 false (.t 22)),
 i1 24 (.call 88 [(.t 19), (.t 23)]),
 i1 25 (.bin .geq (.t 24) (.c (.int .i64 0)))] [1, 2, 4, 5, 6, 7, 25])
 (.cond (.t 25) (.exit 1)
 .skip))
 (.seq (.reg none [mv 26 1,
 i1 27 (.len 0 (.t 26)),
 i1 28 (.bin .sub (.t 27) (.c (.int .i64 1))),
 mv 8 28] [1, 2, 4, 5, 6, 7, 8])
 (.block 2 (.loop [(1, true), (2, false), (4, false), (5, false), (6, false), (7, false), (8, false)] (.seq (.seq (.reg none [mv 29 8,
 i1 30 (.bin .geq (.t 29) (.c (.int .i64 0)))] [1, 2, 4, 5, 6, 7, 8, 30])
 (.cond (.t 30) .skip
 (.exit 2)))
 (.seq (.block 3 (.seq (.regT [9] 15 [mv 34 1,
 mv 35 8,
 i1 36 (.indexAddr [.int .i64 0, .int .i64 0, .str [], .sl false 4 0 []] (.t 34) (.t 35)),
 i1 37 (.load 4 true (.t 36)),
 mv 38 6,
 mv 39 7,
 i1 40 (.indexAddr [.str []] (.t 38) (.t 39)),
 i1 41 (.load 1 false (.t 40)),
 i1 42 (.call 72 [(.t 37), (.t 41)]),
 i1 33 (.movT (.t 42)),
 i1 43 (.extract (.t 33) 0),
 i1 44 (.extract (.t 33) 1),
 i1 9 (.allocL [.int .i64 0, .int .i64 0, .str [], .sl true 4 0 []]),
 i0 (.store 4 (.t 9) (.t 43)),
 mv 10 44] [1, 2, 4, 5, 6, 7, 8, 9, 10])
 (.seq (.reg none [mv 45 10] [1, 2, 4, 5, 6, 7, 8, 9, 45])
 (.cond (.t 45) (.seq (.regT [] 11 [i1 46 (.fieldAddr 3 (.t 5)),
 i1 47 (.loadE 3 (.t 5) (.t 46)),
 mv 48 6,
 mv 49 7,
 i1 50 (.indexAddr [.str []] (.t 48) (.t 49)),
 i1 51 (.load 1 false (.t 50)),
 i1 52 (.build [.int .i64 0, .int .i64 0, .str [], .sl true 4 0 []] [(0, 1, (.c (.int .i64 5))), (2, 1, (.t 51))]),
 i1 53 (.load 4 true (.t 9)),
 i1 54 (.buildSl 4 2 [.int .i64 0, .int .i64 0, .str [], .sl true 4 0 [], .int .i64 0, .int .i64 0, .str [], .sl true 4 0 []] [(0, 4, (.t 52)), (4, 4, (.t 53))]),
 i1 55 (.append 4 56 (.t 47) (.t 54)),
 i1 56 (.fieldAddr 3 (.t 5)),
 i0 (.store 1 (.t 56) (.t 55))] [1, 2, 4, 5, 6, 7])
 (.exit 2))
 .skip))))
 (.reg none [mv 31 8,
 i1 32 (.bin .sub (.t 31) (.c (.int .i64 1))),
 mv 8 32] [1, 2, 4, 5, 6, 7, 8]))))))))
 (.reg none [mv 17 7,
 i1 18 (.bin .add (.t 17) (.c (.int .i64 1))),
 mv 7 18] [1, 2, 4, 5, 6, 7]))))))
 (.seq (.reg none [i1 57 (.load 4 true (.t 5)),
 i0 (.store 4 (.t 4) (.t 57))] [4])
 .ret)))))
def res_ref20_Given : List IRes := [⟨4, false, some (4, true)⟩]
theorem is_ref20_Given : fnIs Go.Proofs.Tryz.prog 74 58 res_ref20_Given ir_ref20_Given = true := by kernel_rfl
theorem ref20_Given_fn {page_0 way_1} {s : Store} {Q : List AV → Store → Prop}  : ok (ref20_Given page_0 way_1) (fun r => Q [.agg [.int .i64 r.Kind, .int .i64 r.N, .str r.S.b, .sl false 4 r.L.length (flat r.L)]] s) → FN Go.Proofs.Tryz.prog 74 [.agg [.int .i64 page_0.Kind, .int .i64 page_0.N, .str page_0.S.b, .sl false 4 page_0.L.length (flat page_0.L)], .sl false 4 way_1.length (flat way_1)] s Q := by
  intro h
  refine FN.of (draw_ok mix) is_ref20_Given rfl (Nat.le_of_ble_eq_true rfl) ?_
  revert h
  rw [ir_ref20_Given, res_ref20_Given, ref20_Given]
  repeat' (first
    | with_reducible exact tt_to
    | ((with_reducible refine b_to ?_ ?_); exact rfl)
    | ((with_reducible refine n_to ?_ ?_); exact rfl)
    | with_reducible refine and_to ?_ ?_
    | with_reducible refine im_to ?_
    | with_reducible refine call_to (fun _ (h : ref20_names = some _) => ref20_names_fe h) (fun r1 => ?_)
    | with_reducible refine call_to_q (fun _ (h : ref20_names = some _) => ref20_names_fe h) (fun _ => rfl) (fun r1 => ?_)
    | with_reducible refine call_to (fun _ (h : ref20_names = some _) => (by refine FE_cast ?_ (ref20_names_fe h); simp -implicitDefEqProofs only [go_sem, start, startE, resVs, resV, resC, allV, retK, Nat.reduceBEq, Nat.reduceAdd, Nat.reduceMul, Nat.reduceLeDiff, Nat.reduceEqDiff, Nat.reduceBNe, Nat.ble_eq, UInt8.reduceToNat])) (fun r1 => ?_)
    | with_reducible refine call_to_q (fun _ (h : ref20_names = some _) => (by refine FE_cast ?_ (ref20_names_fe h); simp -implicitDefEqProofs only [go_sem, start, startE, resVs, resV, resC, allV, retK, Nat.reduceBEq, Nat.reduceAdd, Nat.reduceMul, Nat.reduceLeDiff, Nat.reduceEqDiff, Nat.reduceBNe, Nat.ble_eq, UInt8.reduceToNat])) (fun _ => rfl) (fun r1 => ?_)
    | with_reducible refine call_to (fun _ (h : ref11_Find page_0 (ix r1 k5) = some _) => ref11_Find_fe h) (fun r14 => ?_)
    | with_reducible refine call_to_q (fun _ (h : ref11_Find page_0 (ix r1 k5) = some _) => ref11_Find_fe h) (fun _ => rfl) (fun r14 => ?_)
    | with_reducible refine call_to (fun _ (h : ref11_Find page_0 (ix r1 k5) = some _) => (by refine FE_cast ?_ (ref11_Find_fe h); simp -implicitDefEqProofs only [go_sem, start, startE, resVs, resV, resC, allV, retK, Nat.reduceBEq, Nat.reduceAdd, Nat.reduceMul, Nat.reduceLeDiff, Nat.reduceEqDiff, Nat.reduceBNe, Nat.ble_eq, UInt8.reduceToNat])) (fun r14 => ?_)
    | with_reducible refine call_to_q (fun _ (h : ref11_Find page_0 (ix r1 k5) = some _) => (by refine FE_cast ?_ (ref11_Find_fe h); simp -implicitDefEqProofs only [go_sem, start, startE, resVs, resV, resC, allV, retK, Nat.reduceBEq, Nat.reduceAdd, Nat.reduceMul, Nat.reduceLeDiff, Nat.reduceEqDiff, Nat.reduceBNe, Nat.ble_eq, UInt8.reduceToNat])) (fun _ => rfl) (fun r14 => ?_)
    | with_reducible refine call_to (fun _ (h : ref11_Get (ix way_1 j15) (ix r1 k5) = some _) => ref11_Get_fe h) (fun r22 => ?_)
    | with_reducible refine call_to_q (fun _ (h : ref11_Get (ix way_1 j15) (ix r1 k5) = some _) => ref11_Get_fe h) (fun _ => rfl) (fun r22 => ?_)
    | with_reducible refine call_to (fun _ (h : ref11_Get (ix way_1 j15) (ix r1 k5) = some _) => (by refine FE_cast ?_ (ref11_Get_fe h); simp -implicitDefEqProofs only [go_sem, start, startE, resVs, resV, resC, allV, retK, Nat.reduceBEq, Nat.reduceAdd, Nat.reduceMul, Nat.reduceLeDiff, Nat.reduceEqDiff, Nat.reduceBNe, Nat.ble_eq, UInt8.reduceToNat])) (fun r22 => ?_)
    | with_reducible refine call_to_q (fun _ (h : ref11_Get (ix way_1 j15) (ix r1 k5) = some _) => (by refine FE_cast ?_ (ref11_Get_fe h); simp -implicitDefEqProofs only [go_sem, start, startE, resVs, resV, resC, allV, retK, Nat.reduceBEq, Nat.reduceAdd, Nat.reduceMul, Nat.reduceLeDiff, Nat.reduceEqDiff, Nat.reduceBNe, Nat.ble_eq, UInt8.reduceToNat])) (fun _ => rfl) (fun r22 => ?_)
    | ((with_reducible refine iter_to (fun (j15 : Int) => ⟨[(1, .sl false 4 way_1.length (flat way_1)), (2, .loc [.int .i64 page_0.Kind, .int .i64 page_0.N, .str page_0.S.b, .sl false 4 page_0.L.length (flat page_0.L)]), (4, .loc [.int .i64 0, .int .i64 0, .str (Str.mk []).b, .sl true 4 ([] : List api_Value).length (flat ([] : List api_Value))]), (5, .loc [.int .i64 out4.Kind, .int .i64 out4.N, .str out4.S.b, .sl true 4 out4.L.length (flat out4.L)]), (6, .sl true 1 r1.length (flat r1)), (7, .int .i64 k5), (8, .int .i64 j15)], [], s⟩) ?_ ?_); (first | exact rfl | simp -implicitDefEqProofs only [go_sem, start, startE, resVs, resV, resC, allV, retK, Nat.reduceBEq, Nat.reduceAdd, Nat.reduceMul, Nat.reduceLeDiff, Nat.reduceEqDiff, Nat.reduceBNe, Nat.ble_eq, UInt8.reduceToNat]); rintro J j15)
    | ((with_reducible refine join_to (fun (out11 : api_Value) => ⟨[(1, .sl false 4 way_1.length (flat way_1)), (2, .loc [.int .i64 page_0.Kind, .int .i64 page_0.N, .str page_0.S.b, .sl false 4 page_0.L.length (flat page_0.L)]), (4, .loc [.int .i64 0, .int .i64 0, .str (Str.mk []).b, .sl true 4 ([] : List api_Value).length (flat ([] : List api_Value))]), (5, .loc [.int .i64 out11.Kind, .int .i64 out11.N, .str out11.S.b, .sl true 4 out11.L.length (flat out11.L)]), (6, .sl true 1 r1.length (flat r1)), (7, .int .i64 k5)], [], s⟩) (fun J => ?_) ?_); rotate_left; rintro out11)
    | ((with_reducible refine iter_to (fun ((out4, k5) : api_Value × Int) => ⟨[(1, .sl false 4 way_1.length (flat way_1)), (2, .loc [.int .i64 page_0.Kind, .int .i64 page_0.N, .str page_0.S.b, .sl false 4 page_0.L.length (flat page_0.L)]), (4, .loc [.int .i64 0, .int .i64 0, .str (Str.mk []).b, .sl true 4 ([] : List api_Value).length (flat ([] : List api_Value))]), (5, .loc [.int .i64 out4.Kind, .int .i64 out4.N, .str out4.S.b, .sl true 4 out4.L.length (flat out4.L)]), (6, .sl true 1 r1.length (flat r1)), (7, .int .i64 k5)], [], s⟩) ?_ ?_); (first | exact rfl | simp -implicitDefEqProofs only [go_sem, start, startE, resVs, resV, resC, allV, retK, Nat.reduceBEq, Nat.reduceAdd, Nat.reduceMul, Nat.reduceLeDiff, Nat.reduceEqDiff, Nat.reduceBNe, Nat.ble_eq, UInt8.reduceToNat]); rintro J ⟨out4, k5⟩)
    | ((with_reducible refine join_to (fun (out3 : api_Value) => ⟨[(4, .loc [.int .i64 0, .int .i64 0, .str (Str.mk []).b, .sl true 4 ([] : List api_Value).length (flat ([] : List api_Value))]), (5, .loc [.int .i64 out3.Kind, .int .i64 out3.N, .str out3.S.b, .sl true 4 out3.L.length (flat out3.L)])], [], s⟩) (fun J => ?_) ?_); rotate_left; rintro out3)
    | simp -implicitDefEqProofs only [go_sem, start, startE, resVs, resV, resC, allV, retK, Nat.reduceBEq, Nat.reduceAdd, Nat.reduceMul, Nat.reduceLeDiff, Nat.reduceEqDiff, Nat.reduceBNe, Nat.ble_eq, UInt8.reduceToNat])
theorem ref20_Given_fe {page_0 way_1} {s : Store} {r : api_Value}  (h : ref20_Given page_0 way_1 = some r) : FE Go.Proofs.Tryz.prog 74 [.agg [.int .i64 page_0.Kind, .int .i64 page_0.N, .str page_0.S.b, .sl false 4 page_0.L.length (flat page_0.L)], .sl false 4 way_1.length (flat way_1)] s [.agg [.int .i64 r.Kind, .int .i64 r.N, .str r.S.b, .sl false 4 r.L.length (flat r.L)]] s := ref20_Given_fn   ⟨r, h, rfl, rfl⟩
/-- catchword/catchwordref20.down -/
def ref20_down : Nat → ref19_File → Int → api_Object → Int → (List Int) → (List api_Value) → Option (ref20_Leaf × Int × Int)
  | 0, _, _, _, _, _, _ => none
  | fuel + 1, f_0, n_1, o_2, p_3, path_4, way_5 =>
    if (path_4.length : Int) == 64 then
      some ((ref20_Leaf.mk 0 ([] : List Int) (api_Value.mk 0 0 (Str.mk []) ([] : List api_Value))), 0, 24)
    else
      need ((([] : List Int).length + path_4.length) * 8 ≤ room) <|
      need ((path_4.length + [n_1].length) * 8 ≤ room) <|
      need ((([] : List api_Value).length + way_5.length) * 56 ≤ room) <|
      need ((way_5.length + [o_2.V].length) * 56 ≤ room) <|
      bnd (ref20_Node o_2) fun r1 =>
      if r1.1 == (r1.2.1.length : Int) then
        need (0 ≤ p_3 ∧ p_3 < r1.2.1.length) <|
        bnd (ref19_Get f_0 (ix r1.2.1 p_3)) fun r2 =>
        if r2.2.2 != 0 then
          some ((ref20_Leaf.mk 0 ([] : List Int) (api_Value.mk 0 0 (Str.mk []) ([] : List api_Value))), r2.2.1, r2.2.2)
        else
          bnd (ref20_Typed r2.1 (Str.mk [80, 97, 103, 101])) fun r3 =>
          if r3 then
            need (0 ≤ p_3 ∧ p_3 < r1.2.1.length) <|
            bnd (ref20_Given r2.1.V (way_5 ++ [o_2.V])) fun r4 =>
            some ((ref20_Leaf.mk (ix r1.2.1 p_3) (path_4 ++ [n_1]) r4), 0, 0)
          else
            bnd (ref20_Node r2.1) fun r5 =>
            if !r5.2.2 || (r5.1 != 1) then
              some ((ref20_Leaf.mk 0 ([] : List Int) (api_Value.mk 0 0 (Str.mk []) ([] : List api_Value))), 0, 24)
            else
              need (0 ≤ p_3 ∧ p_3 < r1.2.1.length) <|
              bnd (ref20_down fuel f_0 (ix r1.2.1 p_3) r2.1 0 (path_4 ++ [n_1]) (way_5 ++ [o_2.V])) fun r6 =>
              some (r6.1, r6.2.1, r6.2.2)
      else
        jnS (
          bndS (
            iter (fun ((p11, k12) : Int × Int) =>
              if decide (k12 < (r1.2.1.length : Int)) then
                need (0 ≤ k12 ∧ k12 < r1.2.1.length) <|
                bnd (ref19_Get f_0 (ix r1.2.1 k12)) fun r17 =>
                if r17.2.2 != 0 then
                  some (.inr (.inr ((ref20_Leaf.mk 0 ([] : List Int) (api_Value.mk 0 0 (Str.mk []) ([] : List api_Value))), r17.2.1, r17.2.2)))
                else
                  bnd (ref20_Node r17.1) fun r18 =>
                  if !r18.2.2 then
                    some (.inr (.inr ((ref20_Leaf.mk 0 ([] : List Int) (api_Value.mk 0 0 (Str.mk []) ([] : List api_Value))), (0 : Int), (24 : Int))))
                  else
                    if decide (p11 < r18.1) then
                      need (0 ≤ k12 ∧ k12 < r1.2.1.length) <|
                      bnd (ref20_down fuel f_0 (ix r1.2.1 k12) r17.1 p11 (path_4 ++ [n_1]) (way_5 ++ [o_2.V])) fun r19 =>
                      some (.inr (.inr (r19.1, r19.2.1, r19.2.2)))
                    else
                      some (.inl (w64 (p11 - r18.1), w64 (k12 + 1)))
              else
                some (.inr (.inl ()))) (p_3, 0)) (fun (_ : Unit) =>
            some (.inl ()))
          (fun ((t14, t15, t16) : ref20_Leaf × Int × Int) => some (.inr (t14, t15, t16)))) (fun (_ : Unit) =>
          some ((ref20_Leaf.mk 0 ([] : List Int) (api_Value.mk 0 0 (Str.mk []) ([] : List api_Value))), 0, 24))
        (fun ((t8, t9, t10) : ref20_Leaf × Int × Int) => some (t8, t9, t10))
def ir_ref20_down : IC :=
 (.seq (.reg none [i1 6 (.boxL 6 (.t 0)),
 i1 8 (.boxL 6 (.t 2)),
 i1 12 (.allocL [.int .i64 0, .sl true 1 0 [], .int .i64 0, .int .i64 0, .str [], .sl true 4 0 []]),
 i1 13 (.mov false (.c (.int .i64 0))),
 i1 14 (.mov false (.c (.int .i64 0)))] [1, 3, 4, 5, 6, 8, 12])
 (.seq (.seq (.reg none [mv 31 4,
 i1 32 (.len 0 (.t 31)),
 i1 33 (.bin .eql (.t 32) (.c (.int .i64 64)))] [1, 3, 4, 5, 6, 8, 12, 33])
 (.cond (.t 33) (.seq (.reg none [i1 34 (.build [.int .i64 0, .sl true 1 0 [], .int .i64 0, .int .i64 0, .str [], .sl true 4 0 []] []),
 i0 (.store 6 (.t 12) (.t 34)),
 i1 13 (.mov false (.c (.int .i64 0))),
 i1 14 (.mov false (.c (.int .i64 24)))] [12, 13, 14])
 .ret)
 .skip))
 (.seq (.reg none [i1 35 (.buildSl 1 0 [] []),
 mt 36 4,
 i1 37 (.append 1 8 (.t 35) (.t 36)),
 mv 38 1,
 i1 39 (.buildSl 1 1 [.int .i64 0] [(0, 1, (.t 38))]),
 i1 40 (.append 1 8 (.t 37) (.t 39)),
 mt 4 40] [3, 4, 5, 6, 8, 12])
 (.seq (.regT [] 8 [i1 41 (.buildSl 4 0 [] []),
 mt 42 5,
 i1 43 (.append 4 56 (.t 41) (.t 42)),
 i1 44 (.fieldAddr 0 (.t 8)),
 i1 45 (.load 4 true (.t 44)),
 i1 46 (.buildSl 4 1 [.int .i64 0, .int .i64 0, .str [], .sl true 4 0 []] [(0, 4, (.t 45))]),
 i1 47 (.append 4 56 (.t 43) (.t 46)),
 mt 5 47] [3, 4, 5, 6, 8, 12])
 (.seq (.reg none [i1 49 (.load 6 true (.t 8)),
 i1 50 (.call 49 [(.t 49)]),
 i1 48 (.movT (.t 50)),
 i1 51 (.extract (.t 48) 0),
 i1 52 (.extract (.t 48) 1),
 i1 53 (.extract (.t 48) 2),
 mv 15 51,
 mt 16 52,
 mv 17 53] [3, 4, 5, 6, 12, 15, 16])
 (.seq (.seq (.reg none [mv 54 15,
 mv 55 16,
 i1 56 (.len 0 (.t 55)),
 i1 57 (.bin .eql (.t 54) (.t 56))] [3, 4, 5, 6, 12, 16, 57])
 (.cond (.t 57) (.seq (.regT [18] 14 [i1 59 (.load 6 true (.t 6)),
 mv 60 16,
 mv 61 3,
 i1 62 (.indexAddr [.int .i64 0] (.t 60) (.t 61)),
 i1 63 (.load 1 false (.t 62)),
 i1 64 (.call 35 [(.t 59), (.t 63)]),
 i1 58 (.movT (.t 64)),
 i1 65 (.extract (.t 58) 0),
 i1 66 (.extract (.t 58) 1),
 i1 67 (.extract (.t 58) 2),
 i1 18 (.allocL [.int .i64 0, .int .i64 0, .str [], .sl true 4 0 [], .bool false, .str []]),
 i0 (.store 6 (.t 18) (.t 65)),
 mv 19 66,
 mv 20 67] [3, 4, 5, 6, 12, 16, 18, 19, 20])
 (.seq (.seq (.reg none [mv 68 20,
 i1 69 (.bin .neq (.t 68) (.c (.int .i64 0)))] [3, 4, 5, 6, 12, 16, 18, 19, 20, 69])
 (.cond (.t 69) (.seq (.reg none [i1 70 (.build [.int .i64 0, .sl true 1 0 [], .int .i64 0, .int .i64 0, .str [], .sl true 4 0 []] []),
 mv 71 19,
 mv 72 20,
 i0 (.store 6 (.t 12) (.t 70)),
 mv 13 71,
 mv 14 72] [12, 13, 14])
 .ret)
 .skip))
 (.seq (.seq (.reg none [i1 73 (.load 6 true (.t 18)),
 i1 74 (.call 73 [(.t 73), (.c (.str [80, 97, 103, 101]))])] [3, 4, 5, 6, 12, 16, 18, 74])
 (.cond (.t 74) (.seq (.reg (some 10) [mv 75 16,
 mv 76 3,
 i1 77 (.indexAddr [.int .i64 0] (.t 75) (.t 76)),
 i1 78 (.load 1 false (.t 77)),
 mv 79 4,
 i1 80 (.fieldAddr 0 (.t 18)),
 i1 81 (.load 4 true (.t 80)),
 mv 82 5,
 i1 83 (.call 74 [(.t 81), (.t 82)]),
 i1 84 (.build [.int .i64 0, .sl true 1 0 [], .int .i64 0, .int .i64 0, .str [], .sl true 4 0 []] [(0, 1, (.t 78)), (1, 1, (.t 79)), (2, 4, (.t 83))]),
 i0 (.store 6 (.t 12) (.t 84)),
 i1 13 (.mov false (.c (.int .i64 0))),
 i1 14 (.mov false (.c (.int .i64 0)))] [12, 13, 14])
 .ret)
 .skip))
 (.seq (.reg none [i1 86 (.load 6 true (.t 18)),
 i1 87 (.call 49 [(.t 86)]),
 i1 85 (.movT (.t 87)),
 i1 88 (.extract (.t 85) 0),
 i1 89 (.extract (.t 85) 1),
 i1 90 (.extract (.t 85) 2),
 mv 21 88,
 mt 22 89,
 mv 23 90] [3, 4, 5, 6, 12, 16, 18, 21, 23])
 (.seq (.seq (.reg none [mv 91 23,
 i1 92 (.un .not (.t 91)),
 mv 93 92,
 mvg 94 21 93 false,
 i1g 95 93 false (.bin .neq (.t 94) (.c (.int .i64 1))),
 i1 96 (.pick (.t 93) (.c (.bool true)) (.t 95))] [3, 4, 5, 6, 12, 16, 18, 96])
 (.cond (.t 96) (.seq (.reg none [i1 97 (.build [.int .i64 0, .sl true 1 0 [], .int .i64 0, .int .i64 0, .str [], .sl true 4 0 []] []),
 i0 (.store 6 (.t 12) (.t 97)),
 i1 13 (.mov false (.c (.int .i64 0))),
 i1 14 (.mov false (.c (.int .i64 24)))] [12, 13, 14])
 .ret)
 .skip))
 (.seq (.reg (some 12) [i1 98 (.load 6 true (.t 6)),
 mv 99 16,
 mv 100 3,
 i1 101 (.indexAddr [.int .i64 0] (.t 99) (.t 100)),
 i1 102 (.load 1 false (.t 101)),
 i1 103 (.load 6 true (.t 18)),
 mv 104 4,
 mv 105 5,
 i1 106 (.call 50 [(.t 98), (.t 102), (.t 103), (.c (.int .i64 0)), (.t 104), (.t 105)]),
 i1 107 (.extract (.t 106) 0),
 i1 108 (.extract (.t 106) 1),
 i1 109 (.extract (.t 106) 2),
 i0 (.store 6 (.t 12) (.t 107)),
 mv 13 108,
 mv 14 109] [12, 13, 14])
 .ret))))))
 .skip))
 (.join [(12, false)] (.seq (.reg none [i1 24 (.mov false (.c (.int .i64 0)))] [3, 4, 5, 6, 12, 16, 24])
 (.block 0 (.loop [(3, false), (4, false), (5, false), (6, false), (12, false), (16, true), (24, false)] (.seq (.seq (.reg none [mv 110 24,
 mv 111 16,
 i1 112 (.len 0 (.t 111)),
 i1 113 (.bin .lss (.t 110) (.t 112))] [3, 4, 5, 6, 12, 16, 24, 113])
 (.cond (.t 113) .skip
 (.exit 0)))
 (.seq (.block 1 (.seq (.regT [25] 14 [i1 117 (.load 6 true (.t 6)),
 mv 118 16,
 mv 119 24,
 i1 120 (.indexAddr [.int .i64 0] (.t 118) (.t 119)),
 i1 121 (.load 1 false (.t 120)),
 i1 122 (.call 35 [(.t 117), (.t 121)]),
 i1 116 (.movT (.t 122)),
 i1 123 (.extract (.t 116) 0),
 i1 124 (.extract (.t 116) 1),
 i1 125 (.extract (.t 116) 2),
 i1 25 (.allocL [.int .i64 0, .int .i64 0, .str [], .sl true 4 0 [], .bool false, .str []]),
 i0 (.store 6 (.t 25) (.t 123)),
 mv 26 124,
 mv 27 125] [3, 4, 5, 6, 12, 16, 24, 25, 26, 27])
 (.seq (.seq (.reg none [mv 126 27,
 i1 127 (.bin .neq (.t 126) (.c (.int .i64 0)))] [3, 4, 5, 6, 12, 16, 24, 25, 26, 27, 127])
 (.cond (.t 127) (.seq (.reg none [i1 128 (.build [.int .i64 0, .sl true 1 0 [], .int .i64 0, .int .i64 0, .str [], .sl true 4 0 []] []),
 mv 129 26,
 mv 130 27,
 i0 (.store 6 (.t 12) (.t 128)),
 mv 13 129,
 mv 14 130] [12, 13, 14])
 .ret)
 .skip))
 (.seq (.reg none [i1 132 (.load 6 true (.t 25)),
 i1 133 (.call 49 [(.t 132)]),
 i1 131 (.movT (.t 133)),
 i1 134 (.extract (.t 131) 0),
 i1 135 (.extract (.t 131) 1),
 i1 136 (.extract (.t 131) 2),
 mv 28 134,
 mt 29 135,
 mv 30 136] [3, 4, 5, 6, 12, 16, 24, 25, 28, 30])
 (.seq (.seq (.reg none [mv 137 30,
 i1 138 (.un .not (.t 137))] [3, 4, 5, 6, 12, 16, 24, 25, 28, 138])
 (.cond (.t 138) (.seq (.reg none [i1 139 (.build [.int .i64 0, .sl true 1 0 [], .int .i64 0, .int .i64 0, .str [], .sl true 4 0 []] []),
 i0 (.store 6 (.t 12) (.t 139)),
 i1 13 (.mov false (.c (.int .i64 0))),
 i1 14 (.mov false (.c (.int .i64 24)))] [12, 13, 14])
 .ret)
 .skip))
 (.seq (.seq (.reg none [mv 140 3,
 mv 141 28,
 i1 142 (.bin .lss (.t 140) (.t 141))] [3, 4, 5, 6, 12, 16, 24, 25, 28, 142])
 (.cond (.t 142) (.seq (.reg (some 13) [i1 143 (.load 6 true (.t 6)),
 mv 144 16,
 mv 145 24,
 i1 146 (.indexAddr [.int .i64 0] (.t 144) (.t 145)),
 i1 147 (.load 1 false (.t 146)),
 i1 148 (.load 6 true (.t 25)),
 mv 149 3,
 mv 150 4,
 mv 151 5,
 i1 152 (.call 50 [(.t 143), (.t 147), (.t 148), (.t 149), (.t 150), (.t 151)]),
 i1 153 (.extract (.t 152) 0),
 i1 154 (.extract (.t 152) 1),
 i1 155 (.extract (.t 152) 2),
 i0 (.store 6 (.t 12) (.t 153)),
 mv 13 154,
 mv 14 155] [12, 13, 14])
 .ret)
 .skip))
 (.reg none [mv 156 3,
 mv 157 28,
 i1 158 (.bin .sub (.t 156) (.t 157)),
 mv 3 158] [3, 4, 5, 6, 12, 16, 24])))))))
 (.reg none [mv 114 24,
 i1 115 (.bin .add (.t 114) (.c (.int .i64 1))),
 mv 24 115] [3, 4, 5, 6, 12, 16, 24]))))))
 (.seq (.reg none [i1 159 (.build [.int .i64 0, .sl true 1 0 [], .int .i64 0, .int .i64 0, .str [], .sl true 4 0 []] []),
 i0 (.store 6 (.t 12) (.t 159)),
 i1 13 (.mov false (.c (.int .i64 0))),
 i1 14 (.mov false (.c (.int .i64 24)))] [12, 13, 14])
 .ret))))))))
def res_ref20_down : List IRes := [⟨12, false, some (6, true)⟩, ⟨13, true, none⟩, ⟨14, true, none⟩]
theorem is_ref20_down : fnIs Go.Proofs.Tryz.prog 50 160 res_ref20_down ir_ref20_down = true := by kernel_rfl
theorem ref20_down_fn {fuel : Nat} : ∀ {f_0 : ref19_File} {n_1 : Int} {o_2 : api_Object} {p_3 : Int} {path_4 : (List Int)} {way_5 : (List api_Value)} {s : Store} {Q : List AV → Store → Prop}, ok (ref20_down fuel f_0 n_1 o_2 p_3 path_4 way_5) (fun r => Q [.agg [.int .i64 r.1.Page, .sl false 1 r.1.Path.length (flat r.1.Path), .int .i64 r.1.Given.Kind, .int .i64 r.1.Given.N, .str r.1.Given.S.b, .sl false 4 r.1.Given.L.length (flat r.1.Given.L)], .int .i64 r.2.1, .int .i64 r.2.2] s) → FN Go.Proofs.Tryz.prog 50 [.agg [.bool true, .sl false 6 f_0.Objects.length (flat f_0.Objects), .sl false 1 f_0.Bytes.B.length (flat f_0.Bytes.B), .sl false 1 f_0.Bytes.Known.length (flat f_0.Bytes.Known), .sl false 1 f_0.Table.Places.length (flat f_0.Table.Places), .int .i64 f_0.Table.Root], .int .i64 n_1, .agg [.int .i64 o_2.V.Kind, .int .i64 o_2.V.N, .str o_2.V.S.b, .sl false 4 o_2.V.L.length (flat o_2.V.L), .bool o_2.Stream, .str o_2.Data.b], .int .i64 p_3, .sl false 1 path_4.length (flat path_4), .sl false 4 way_5.length (flat way_5)] s Q := by
  induction fuel with
  | zero => intros; rename_i h; rw [ref20_down] at h; exact absurd h (by rw [ok_none]; exact fun h => h)
  | succ fuel ih =>
  have ihfe : ∀ {f_0 : ref19_File} {n_1 : Int} {o_2 : api_Object} {p_3 : Int} {path_4 : (List Int)} {way_5 : (List api_Value)} {s : Store} {r : ref20_Leaf × Int × Int}, ref20_down fuel f_0 n_1 o_2 p_3 path_4 way_5 = some r → FE Go.Proofs.Tryz.prog 50 [.agg [.bool true, .sl false 6 f_0.Objects.length (flat f_0.Objects), .sl false 1 f_0.Bytes.B.length (flat f_0.Bytes.B), .sl false 1 f_0.Bytes.Known.length (flat f_0.Bytes.Known), .sl false 1 f_0.Table.Places.length (flat f_0.Table.Places), .int .i64 f_0.Table.Root], .int .i64 n_1, .agg [.int .i64 o_2.V.Kind, .int .i64 o_2.V.N, .str o_2.V.S.b, .sl false 4 o_2.V.L.length (flat o_2.V.L), .bool o_2.Stream, .str o_2.Data.b], .int .i64 p_3, .sl false 1 path_4.length (flat path_4), .sl false 4 way_5.length (flat way_5)] s [.agg [.int .i64 r.1.Page, .sl false 1 r.1.Path.length (flat r.1.Path), .int .i64 r.1.Given.Kind, .int .i64 r.1.Given.N, .str r.1.Given.S.b, .sl false 4 r.1.Given.L.length (flat r.1.Given.L)], .int .i64 r.2.1, .int .i64 r.2.2] s := fun h => ih ⟨_, h, rfl, rfl⟩
  intro f_0 n_1 o_2 p_3 path_4 way_5 s Q
  intro h
  refine FN.of (draw_ok mix) is_ref20_down rfl (Nat.le_of_ble_eq_true rfl) ?_
  revert h
  rw [ir_ref20_down, res_ref20_down, ref20_down]
  repeat' (first
    | with_reducible exact tt_to
    | ((with_reducible refine b_to ?_ ?_); exact rfl)
    | ((with_reducible refine n_to ?_ ?_); exact rfl)
    | with_reducible refine and_to ?_ ?_
    | with_reducible refine im_to ?_
    | with_reducible refine call_to (fun _ (h : ref20_Node o_2 = some _) => ref20_Node_fe h) (fun r1 => ?_)
    | with_reducible refine call_to_q (fun _ (h : ref20_Node o_2 = some _) => ref20_Node_fe h) (fun _ => rfl) (fun r1 => ?_)
    | with_reducible refine call_to (fun _ (h : ref20_Node o_2 = some _) => (by refine FE_cast ?_ (ref20_Node_fe h); simp -implicitDefEqProofs only [go_sem, start, startE, resVs, resV, resC, allV, retK, Nat.reduceBEq, Nat.reduceAdd, Nat.reduceMul, Nat.reduceLeDiff, Nat.reduceEqDiff, Nat.reduceBNe, Nat.ble_eq, UInt8.reduceToNat])) (fun r1 => ?_)
    | with_reducible refine call_to_q (fun _ (h : ref20_Node o_2 = some _) => (by refine FE_cast ?_ (ref20_Node_fe h); simp -implicitDefEqProofs only [go_sem, start, startE, resVs, resV, resC, allV, retK, Nat.reduceBEq, Nat.reduceAdd, Nat.reduceMul, Nat.reduceLeDiff, Nat.reduceEqDiff, Nat.reduceBNe, Nat.ble_eq, UInt8.reduceToNat])) (fun _ => rfl) (fun r1 => ?_)
    | with_reducible refine call_to (fun _ (h : ref19_Get f_0 (ix r1.2.1 p_3) = some _) => ref19_Get_fe h) (fun r2 => ?_)
    | with_reducible refine call_to_q (fun _ (h : ref19_Get f_0 (ix r1.2.1 p_3) = some _) => ref19_Get_fe h) (fun _ => rfl) (fun r2 => ?_)
    | with_reducible refine call_to (fun _ (h : ref19_Get f_0 (ix r1.2.1 p_3) = some _) => (by refine FE_cast ?_ (ref19_Get_fe h); simp -implicitDefEqProofs only [go_sem, start, startE, resVs, resV, resC, allV, retK, Nat.reduceBEq, Nat.reduceAdd, Nat.reduceMul, Nat.reduceLeDiff, Nat.reduceEqDiff, Nat.reduceBNe, Nat.ble_eq, UInt8.reduceToNat])) (fun r2 => ?_)
    | with_reducible refine call_to_q (fun _ (h : ref19_Get f_0 (ix r1.2.1 p_3) = some _) => (by refine FE_cast ?_ (ref19_Get_fe h); simp -implicitDefEqProofs only [go_sem, start, startE, resVs, resV, resC, allV, retK, Nat.reduceBEq, Nat.reduceAdd, Nat.reduceMul, Nat.reduceLeDiff, Nat.reduceEqDiff, Nat.reduceBNe, Nat.ble_eq, UInt8.reduceToNat])) (fun _ => rfl) (fun r2 => ?_)
    | with_reducible refine call_to (fun _ (h : ref20_Typed r2.1 (Str.mk [80, 97, 103, 101]) = some _) => ref20_Typed_fe h) (fun r3 => ?_)
    | with_reducible refine call_to_q (fun _ (h : ref20_Typed r2.1 (Str.mk [80, 97, 103, 101]) = some _) => ref20_Typed_fe h) (fun _ => rfl) (fun r3 => ?_)
    | with_reducible refine call_to (fun _ (h : ref20_Typed r2.1 (Str.mk [80, 97, 103, 101]) = some _) => (by refine FE_cast ?_ (ref20_Typed_fe h); simp -implicitDefEqProofs only [go_sem, start, startE, resVs, resV, resC, allV, retK, Nat.reduceBEq, Nat.reduceAdd, Nat.reduceMul, Nat.reduceLeDiff, Nat.reduceEqDiff, Nat.reduceBNe, Nat.ble_eq, UInt8.reduceToNat])) (fun r3 => ?_)
    | with_reducible refine call_to_q (fun _ (h : ref20_Typed r2.1 (Str.mk [80, 97, 103, 101]) = some _) => (by refine FE_cast ?_ (ref20_Typed_fe h); simp -implicitDefEqProofs only [go_sem, start, startE, resVs, resV, resC, allV, retK, Nat.reduceBEq, Nat.reduceAdd, Nat.reduceMul, Nat.reduceLeDiff, Nat.reduceEqDiff, Nat.reduceBNe, Nat.ble_eq, UInt8.reduceToNat])) (fun _ => rfl) (fun r3 => ?_)
    | with_reducible refine call_to (fun _ (h : ref20_Given r2.1.V (way_5 ++ [o_2.V]) = some _) => ref20_Given_fe h) (fun r4 => ?_)
    | with_reducible refine call_to_q (fun _ (h : ref20_Given r2.1.V (way_5 ++ [o_2.V]) = some _) => ref20_Given_fe h) (fun _ => rfl) (fun r4 => ?_)
    | with_reducible refine call_to (fun _ (h : ref20_Given r2.1.V (way_5 ++ [o_2.V]) = some _) => (by refine FE_cast ?_ (ref20_Given_fe h); simp -implicitDefEqProofs only [go_sem, start, startE, resVs, resV, resC, allV, retK, Nat.reduceBEq, Nat.reduceAdd, Nat.reduceMul, Nat.reduceLeDiff, Nat.reduceEqDiff, Nat.reduceBNe, Nat.ble_eq, UInt8.reduceToNat])) (fun r4 => ?_)
    | with_reducible refine call_to_q (fun _ (h : ref20_Given r2.1.V (way_5 ++ [o_2.V]) = some _) => (by refine FE_cast ?_ (ref20_Given_fe h); simp -implicitDefEqProofs only [go_sem, start, startE, resVs, resV, resC, allV, retK, Nat.reduceBEq, Nat.reduceAdd, Nat.reduceMul, Nat.reduceLeDiff, Nat.reduceEqDiff, Nat.reduceBNe, Nat.ble_eq, UInt8.reduceToNat])) (fun _ => rfl) (fun r4 => ?_)
    | with_reducible refine call_to (fun _ (h : ref20_Node r2.1 = some _) => ref20_Node_fe h) (fun r5 => ?_)
    | with_reducible refine call_to_q (fun _ (h : ref20_Node r2.1 = some _) => ref20_Node_fe h) (fun _ => rfl) (fun r5 => ?_)
    | with_reducible refine call_to (fun _ (h : ref20_Node r2.1 = some _) => (by refine FE_cast ?_ (ref20_Node_fe h); simp -implicitDefEqProofs only [go_sem, start, startE, resVs, resV, resC, allV, retK, Nat.reduceBEq, Nat.reduceAdd, Nat.reduceMul, Nat.reduceLeDiff, Nat.reduceEqDiff, Nat.reduceBNe, Nat.ble_eq, UInt8.reduceToNat])) (fun r5 => ?_)
    | with_reducible refine call_to_q (fun _ (h : ref20_Node r2.1 = some _) => (by refine FE_cast ?_ (ref20_Node_fe h); simp -implicitDefEqProofs only [go_sem, start, startE, resVs, resV, resC, allV, retK, Nat.reduceBEq, Nat.reduceAdd, Nat.reduceMul, Nat.reduceLeDiff, Nat.reduceEqDiff, Nat.reduceBNe, Nat.ble_eq, UInt8.reduceToNat])) (fun _ => rfl) (fun r5 => ?_)
    | with_reducible refine call_to (fun _ (h : ref20_down fuel f_0 (ix r1.2.1 p_3) r2.1 0 (path_4 ++ [n_1]) (way_5 ++ [o_2.V]) = some _) => ihfe h) (fun r6 => ?_)
    | with_reducible refine call_to_q (fun _ (h : ref20_down fuel f_0 (ix r1.2.1 p_3) r2.1 0 (path_4 ++ [n_1]) (way_5 ++ [o_2.V]) = some _) => ihfe h) (fun _ => rfl) (fun r6 => ?_)
    | with_reducible refine call_to (fun _ (h : ref20_down fuel f_0 (ix r1.2.1 p_3) r2.1 0 (path_4 ++ [n_1]) (way_5 ++ [o_2.V]) = some _) => (by refine FE_cast ?_ (ihfe h); simp -implicitDefEqProofs only [go_sem, start, startE, resVs, resV, resC, allV, retK, Nat.reduceBEq, Nat.reduceAdd, Nat.reduceMul, Nat.reduceLeDiff, Nat.reduceEqDiff, Nat.reduceBNe, Nat.ble_eq, UInt8.reduceToNat])) (fun r6 => ?_)
    | with_reducible refine call_to_q (fun _ (h : ref20_down fuel f_0 (ix r1.2.1 p_3) r2.1 0 (path_4 ++ [n_1]) (way_5 ++ [o_2.V]) = some _) => (by refine FE_cast ?_ (ihfe h); simp -implicitDefEqProofs only [go_sem, start, startE, resVs, resV, resC, allV, retK, Nat.reduceBEq, Nat.reduceAdd, Nat.reduceMul, Nat.reduceLeDiff, Nat.reduceEqDiff, Nat.reduceBNe, Nat.ble_eq, UInt8.reduceToNat])) (fun _ => rfl) (fun r6 => ?_)
    | with_reducible refine call_to (fun _ (h : ref20_down fuel f_0 (ix r1.2.1 p_3) r2.1 0 (path_4 ++ [n_1]) (way_5 ++ [o_2.V]) = some _) => (by have hx := ihfe (s := s) h; simp -implicitDefEqProofs only [go_sem, start, startE, resVs, resV, resC, allV, retK, Nat.reduceBEq, Nat.reduceAdd, Nat.reduceMul, Nat.reduceLeDiff, Nat.reduceEqDiff, Nat.reduceBNe, Nat.ble_eq, UInt8.reduceToNat] at hx; exact hx)) (fun r6 => ?_)
    | with_reducible refine call_to (fun _ (h : ref19_Get f_0 (ix r1.2.1 k12) = some _) => ref19_Get_fe h) (fun r17 => ?_)
    | with_reducible refine call_to_q (fun _ (h : ref19_Get f_0 (ix r1.2.1 k12) = some _) => ref19_Get_fe h) (fun _ => rfl) (fun r17 => ?_)
    | with_reducible refine call_to (fun _ (h : ref19_Get f_0 (ix r1.2.1 k12) = some _) => (by refine FE_cast ?_ (ref19_Get_fe h); simp -implicitDefEqProofs only [go_sem, start, startE, resVs, resV, resC, allV, retK, Nat.reduceBEq, Nat.reduceAdd, Nat.reduceMul, Nat.reduceLeDiff, Nat.reduceEqDiff, Nat.reduceBNe, Nat.ble_eq, UInt8.reduceToNat])) (fun r17 => ?_)
    | with_reducible refine call_to_q (fun _ (h : ref19_Get f_0 (ix r1.2.1 k12) = some _) => (by refine FE_cast ?_ (ref19_Get_fe h); simp -implicitDefEqProofs only [go_sem, start, startE, resVs, resV, resC, allV, retK, Nat.reduceBEq, Nat.reduceAdd, Nat.reduceMul, Nat.reduceLeDiff, Nat.reduceEqDiff, Nat.reduceBNe, Nat.ble_eq, UInt8.reduceToNat])) (fun _ => rfl) (fun r17 => ?_)
    | with_reducible refine call_to (fun _ (h : ref20_Node r17.1 = some _) => ref20_Node_fe h) (fun r18 => ?_)
    | with_reducible refine call_to_q (fun _ (h : ref20_Node r17.1 = some _) => ref20_Node_fe h) (fun _ => rfl) (fun r18 => ?_)
    | with_reducible refine call_to (fun _ (h : ref20_Node r17.1 = some _) => (by refine FE_cast ?_ (ref20_Node_fe h); simp -implicitDefEqProofs only [go_sem, start, startE, resVs, resV, resC, allV, retK, Nat.reduceBEq, Nat.reduceAdd, Nat.reduceMul, Nat.reduceLeDiff, Nat.reduceEqDiff, Nat.reduceBNe, Nat.ble_eq, UInt8.reduceToNat])) (fun r18 => ?_)
    | with_reducible refine call_to_q (fun _ (h : ref20_Node r17.1 = some _) => (by refine FE_cast ?_ (ref20_Node_fe h); simp -implicitDefEqProofs only [go_sem, start, startE, resVs, resV, resC, allV, retK, Nat.reduceBEq, Nat.reduceAdd, Nat.reduceMul, Nat.reduceLeDiff, Nat.reduceEqDiff, Nat.reduceBNe, Nat.ble_eq, UInt8.reduceToNat])) (fun _ => rfl) (fun r18 => ?_)
    | with_reducible refine call_to (fun _ (h : ref20_down fuel f_0 (ix r1.2.1 k12) r17.1 p11 (path_4 ++ [n_1]) (way_5 ++ [o_2.V]) = some _) => ihfe h) (fun r19 => ?_)
    | with_reducible refine call_to_q (fun _ (h : ref20_down fuel f_0 (ix r1.2.1 k12) r17.1 p11 (path_4 ++ [n_1]) (way_5 ++ [o_2.V]) = some _) => ihfe h) (fun _ => rfl) (fun r19 => ?_)
    | with_reducible refine call_to (fun _ (h : ref20_down fuel f_0 (ix r1.2.1 k12) r17.1 p11 (path_4 ++ [n_1]) (way_5 ++ [o_2.V]) = some _) => (by refine FE_cast ?_ (ihfe h); simp -implicitDefEqProofs only [go_sem, start, startE, resVs, resV, resC, allV, retK, Nat.reduceBEq, Nat.reduceAdd, Nat.reduceMul, Nat.reduceLeDiff, Nat.reduceEqDiff, Nat.reduceBNe, Nat.ble_eq, UInt8.reduceToNat])) (fun r19 => ?_)
    | with_reducible refine call_to_q (fun _ (h : ref20_down fuel f_0 (ix r1.2.1 k12) r17.1 p11 (path_4 ++ [n_1]) (way_5 ++ [o_2.V]) = some _) => (by refine FE_cast ?_ (ihfe h); simp -implicitDefEqProofs only [go_sem, start, startE, resVs, resV, resC, allV, retK, Nat.reduceBEq, Nat.reduceAdd, Nat.reduceMul, Nat.reduceLeDiff, Nat.reduceEqDiff, Nat.reduceBNe, Nat.ble_eq, UInt8.reduceToNat])) (fun _ => rfl) (fun r19 => ?_)
    | with_reducible refine call_to (fun _ (h : ref20_down fuel f_0 (ix r1.2.1 k12) r17.1 p11 (path_4 ++ [n_1]) (way_5 ++ [o_2.V]) = some _) => (by have hx := ihfe (s := s) h; simp -implicitDefEqProofs only [go_sem, start, startE, resVs, resV, resC, allV, retK, Nat.reduceBEq, Nat.reduceAdd, Nat.reduceMul, Nat.reduceLeDiff, Nat.reduceEqDiff, Nat.reduceBNe, Nat.ble_eq, UInt8.reduceToNat] at hx; exact hx)) (fun r19 => ?_)
    | ((with_reducible refine iter_to (fun ((p11, k12) : Int × Int) => ⟨[(3, .int .i64 p11), (4, .sl true 1 (path_4 ++ [n_1]).length (flat (path_4 ++ [n_1]))), (5, .sl true 4 (way_5 ++ [o_2.V]).length (flat (way_5 ++ [o_2.V]))), (6, .loc [.bool true, .sl false 6 f_0.Objects.length (flat f_0.Objects), .sl false 1 f_0.Bytes.B.length (flat f_0.Bytes.B), .sl false 1 f_0.Bytes.Known.length (flat f_0.Bytes.Known), .sl false 1 f_0.Table.Places.length (flat f_0.Table.Places), .int .i64 f_0.Table.Root]), (12, .loc [.int .i64 0, .sl true 1 ([] : List Int).length (flat ([] : List Int)), .int .i64 0, .int .i64 0, .str (Str.mk []).b, .sl true 4 ([] : List api_Value).length (flat ([] : List api_Value))]), (16, .sl false 1 r1.2.1.length (flat r1.2.1)), (24, .int .i64 k12)], [], s⟩) ?_ ?_); (first | exact rfl | simp -implicitDefEqProofs only [go_sem, start, startE, resVs, resV, resC, allV, retK, Nat.reduceBEq, Nat.reduceAdd, Nat.reduceMul, Nat.reduceLeDiff, Nat.reduceEqDiff, Nat.reduceBNe, Nat.ble_eq, UInt8.reduceToNat]); rintro J ⟨p11, k12⟩)
    | ((with_reducible refine join_toS (fun (_ : Unit) => ⟨[(12, .loc [.int .i64 0, .sl true 1 ([] : List Int).length (flat ([] : List Int)), .int .i64 0, .int .i64 0, .str (Str.mk []).b, .sl true 4 ([] : List api_Value).length (flat ([] : List api_Value))])], [], s⟩) (fun J => ?_) ?_); rotate_left; rintro _)
    | simp -implicitDefEqProofs only [go_sem, start, startE, resVs, resV, resC, allV, retK, Nat.reduceBEq, Nat.reduceAdd, Nat.reduceMul, Nat.reduceLeDiff, Nat.reduceEqDiff, Nat.reduceBNe, Nat.ble_eq, UInt8.reduceToNat])
theorem ref20_down_fe {fuel : Nat} {f_0 n_1 o_2 p_3 path_4 way_5} {s : Store} {r : ref20_Leaf × Int × Int} (h : ref20_down fuel f_0 n_1 o_2 p_3 path_4 way_5 = some r) : FE Go.Proofs.Tryz.prog 50 [.agg [.bool true, .sl false 6 f_0.Objects.length (flat f_0.Objects), .sl false 1 f_0.Bytes.B.length (flat f_0.Bytes.B), .sl false 1 f_0.Bytes.Known.length (flat f_0.Bytes.Known), .sl false 1 f_0.Table.Places.length (flat f_0.Table.Places), .int .i64 f_0.Table.Root], .int .i64 n_1, .agg [.int .i64 o_2.V.Kind, .int .i64 o_2.V.N, .str o_2.V.S.b, .sl false 4 o_2.V.L.length (flat o_2.V.L), .bool o_2.Stream, .str o_2.Data.b], .int .i64 p_3, .sl false 1 path_4.length (flat path_4), .sl false 4 way_5.length (flat way_5)] s [.agg [.int .i64 r.1.Page, .sl false 1 r.1.Path.length (flat r.1.Path), .int .i64 r.1.Given.Kind, .int .i64 r.1.Given.N, .str r.1.Given.S.b, .sl false 4 r.1.Given.L.length (flat r.1.Given.L)], .int .i64 r.2.1, .int .i64 r.2.2] s := ref20_down_fn ⟨r, h, rfl, rfl⟩
end Go.AB
end

section
set_option maxRecDepth 4000
namespace Go.AB
open Go
/-- catchword/catchwordref20.Find -/
def ref20_Find (f_0 : ref19_File) (p_1 : Int) : Option (ref20_Leaf × Int × Int) :=
  bnd (ref20_top f_0) fun r1 =>
  if r1.2.2.2 != 0 then
    some ((ref20_Leaf.mk 0 ([] : List Int) (api_Value.mk 0 0 (Str.mk []) ([] : List api_Value))), r1.2.2.1, r1.2.2.2)
  else
    bnd (ref20_Node r1.2.1) fun r2 =>
    if (decide (p_1 < 0)) || (decide (p_1 ≥ r2.1)) then
      some ((ref20_Leaf.mk 0 ([] : List Int) (api_Value.mk 0 0 (Str.mk []) ([] : List api_Value))), 0, 25)
    else
      bnd (ref20_down bigN f_0 r1.1 r1.2.1 p_1 ([] : List Int) ([] : List api_Value)) fun r3 =>
      some (r3.1, r3.2.1, r3.2.2)
def ir_ref20_Find : IC :=
 (.seq (.reg none [i1 2 (.boxL 6 (.t 0)),
 i1 4 (.allocL [.int .i64 0, .sl true 1 0 [], .int .i64 0, .int .i64 0, .str [], .sl true 4 0 []]),
 i1 5 (.mov false (.c (.int .i64 0))),
 i1 6 (.mov false (.c (.int .i64 0)))] [1, 2, 4])
 (.seq (.reg none [i1 15 (.load 6 true (.t 2)),
 i1 16 (.call 48 [(.t 15)]),
 i1 14 (.movT (.t 16)),
 i1 17 (.extract (.t 14) 0),
 i1 18 (.extract (.t 14) 1),
 i1 19 (.extract (.t 14) 2),
 i1 20 (.extract (.t 14) 3),
 i1 8 (.allocL [.int .i64 0, .int .i64 0, .str [], .sl true 4 0 [], .bool false, .str []]),
 mv 7 17,
 i0 (.store 6 (.t 8) (.t 18)),
 mv 9 19,
 mv 10 20] [1, 2, 4, 7, 8, 9, 10])
 (.seq (.seq (.reg none [mv 21 10,
 i1 22 (.bin .neq (.t 21) (.c (.int .i64 0)))] [1, 2, 4, 7, 8, 9, 10, 22])
 (.cond (.t 22) (.seq (.reg none [i1 23 (.build [.int .i64 0, .sl true 1 0 [], .int .i64 0, .int .i64 0, .str [], .sl true 4 0 []] []),
 mv 24 9,
 mv 25 10,
 i0 (.store 6 (.t 4) (.t 23)),
 mv 5 24,
 mv 6 25] [4, 5, 6])
 .ret)
 .skip))
 (.seq (.reg none [i1 27 (.load 6 true (.t 8)),
 i1 28 (.call 49 [(.t 27)]),
 i1 26 (.movT (.t 28)),
 i1 29 (.extract (.t 26) 0),
 i1 30 (.extract (.t 26) 1),
 i1 31 (.extract (.t 26) 2),
 mv 11 29,
 mt 12 30,
 mv 13 31] [1, 2, 4, 7, 8, 11])
 (.seq (.seq (.reg none [mv 32 1,
 i1 33 (.bin .lss (.t 32) (.c (.int .i64 0))),
 mv 34 33,
 mvg 35 1 34 false,
 mvg 36 11 34 false,
 i1g 37 34 false (.bin .geq (.t 35) (.t 36)),
 i1 38 (.pick (.t 34) (.c (.bool true)) (.t 37))] [1, 2, 4, 7, 8, 38])
 (.cond (.t 38) (.seq (.reg none [i1 39 (.build [.int .i64 0, .sl true 1 0 [], .int .i64 0, .int .i64 0, .str [], .sl true 4 0 []] []),
 i0 (.store 6 (.t 4) (.t 39)),
 i1 5 (.mov false (.c (.int .i64 0))),
 i1 6 (.mov false (.c (.int .i64 25)))] [4, 5, 6])
 .ret)
 .skip))
 (.seq (.reg none [i1 40 (.load 6 true (.t 2)),
 mv 41 7,
 i1 42 (.load 6 true (.t 8)),
 mv 43 1,
 i1 44 (.call 50 [(.t 40), (.t 41), (.t 42), (.t 43), (.c (.sl true 1 0 [])), (.c (.sl true 4 0 []))]),
 i1 45 (.extract (.t 44) 0),
 i1 46 (.extract (.t 44) 1),
 i1 47 (.extract (.t 44) 2),
 i0 (.store 6 (.t 4) (.t 45)),
 mv 5 46,
 mv 6 47] [4, 5, 6])
 .ret))))))
def res_ref20_Find : List IRes := [⟨4, false, some (6, true)⟩, ⟨5, true, none⟩, ⟨6, true, none⟩]
theorem is_ref20_Find : fnIs Go.Proofs.Tryz.prog 18 48 res_ref20_Find ir_ref20_Find = true := by kernel_rfl
theorem ref20_Find_fn {f_0 p_1} {s : Store} {Q : List AV → Store → Prop}  : ok (ref20_Find f_0 p_1) (fun r => Q [.agg [.int .i64 r.1.Page, .sl false 1 r.1.Path.length (flat r.1.Path), .int .i64 r.1.Given.Kind, .int .i64 r.1.Given.N, .str r.1.Given.S.b, .sl false 4 r.1.Given.L.length (flat r.1.Given.L)], .int .i64 r.2.1, .int .i64 r.2.2] s) → FN Go.Proofs.Tryz.prog 18 [.agg [.bool true, .sl false 6 f_0.Objects.length (flat f_0.Objects), .sl false 1 f_0.Bytes.B.length (flat f_0.Bytes.B), .sl false 1 f_0.Bytes.Known.length (flat f_0.Bytes.Known), .sl false 1 f_0.Table.Places.length (flat f_0.Table.Places), .int .i64 f_0.Table.Root], .int .i64 p_1] s Q := by
  intro h
  refine FN.of (draw_ok mix) is_ref20_Find rfl (Nat.le_of_ble_eq_true rfl) ?_
  revert h
  rw [ir_ref20_Find, res_ref20_Find, ref20_Find]
  repeat' (first
    | with_reducible exact tt_to
    | with_reducible refine and_to ?_ ?_
    | with_reducible refine im_to ?_
    | with_reducible refine call_to (fun _ (h : ref20_top f_0 = some _) => ref20_top_fe h) (fun r1 => ?_)
    | with_reducible refine call_to_q (fun _ (h : ref20_top f_0 = some _) => ref20_top_fe h) (fun _ => rfl) (fun r1 => ?_)
    | with_reducible refine call_to (fun _ (h : ref20_top f_0 = some _) => (by refine FE_cast ?_ (ref20_top_fe h); simp -implicitDefEqProofs only [go_sem, start, startE, resVs, resV, resC, allV, retK, Nat.reduceBEq, Nat.reduceAdd, Nat.reduceMul, Nat.reduceLeDiff, Nat.reduceEqDiff, Nat.reduceBNe, Nat.ble_eq, UInt8.reduceToNat])) (fun r1 => ?_)
    | with_reducible refine call_to_q (fun _ (h : ref20_top f_0 = some _) => (by refine FE_cast ?_ (ref20_top_fe h); simp -implicitDefEqProofs only [go_sem, start, startE, resVs, resV, resC, allV, retK, Nat.reduceBEq, Nat.reduceAdd, Nat.reduceMul, Nat.reduceLeDiff, Nat.reduceEqDiff, Nat.reduceBNe, Nat.ble_eq, UInt8.reduceToNat])) (fun _ => rfl) (fun r1 => ?_)
    | with_reducible refine call_to (fun _ (h : ref20_Node r1.2.1 = some _) => ref20_Node_fe h) (fun r2 => ?_)
    | with_reducible refine call_to_q (fun _ (h : ref20_Node r1.2.1 = some _) => ref20_Node_fe h) (fun _ => rfl) (fun r2 => ?_)
    | with_reducible refine call_to (fun _ (h : ref20_Node r1.2.1 = some _) => (by refine FE_cast ?_ (ref20_Node_fe h); simp -implicitDefEqProofs only [go_sem, start, startE, resVs, resV, resC, allV, retK, Nat.reduceBEq, Nat.reduceAdd, Nat.reduceMul, Nat.reduceLeDiff, Nat.reduceEqDiff, Nat.reduceBNe, Nat.ble_eq, UInt8.reduceToNat])) (fun r2 => ?_)
    | with_reducible refine call_to_q (fun _ (h : ref20_Node r1.2.1 = some _) => (by refine FE_cast ?_ (ref20_Node_fe h); simp -implicitDefEqProofs only [go_sem, start, startE, resVs, resV, resC, allV, retK, Nat.reduceBEq, Nat.reduceAdd, Nat.reduceMul, Nat.reduceLeDiff, Nat.reduceEqDiff, Nat.reduceBNe, Nat.ble_eq, UInt8.reduceToNat])) (fun _ => rfl) (fun r2 => ?_)
    | with_reducible refine call_to (fun _ (h : ref20_down bigN f_0 r1.1 r1.2.1 p_1 ([] : List Int) ([] : List api_Value) = some _) => ref20_down_fe h) (fun r3 => ?_)
    | with_reducible refine call_to_q (fun _ (h : ref20_down bigN f_0 r1.1 r1.2.1 p_1 ([] : List Int) ([] : List api_Value) = some _) => ref20_down_fe h) (fun _ => rfl) (fun r3 => ?_)
    | with_reducible refine call_to (fun _ (h : ref20_down bigN f_0 r1.1 r1.2.1 p_1 ([] : List Int) ([] : List api_Value) = some _) => (by refine FE_cast ?_ (ref20_down_fe h); simp -implicitDefEqProofs only [go_sem, start, startE, resVs, resV, resC, allV, retK, Nat.reduceBEq, Nat.reduceAdd, Nat.reduceMul, Nat.reduceLeDiff, Nat.reduceEqDiff, Nat.reduceBNe, Nat.ble_eq, UInt8.reduceToNat])) (fun r3 => ?_)
    | with_reducible refine call_to_q (fun _ (h : ref20_down bigN f_0 r1.1 r1.2.1 p_1 ([] : List Int) ([] : List api_Value) = some _) => (by refine FE_cast ?_ (ref20_down_fe h); simp -implicitDefEqProofs only [go_sem, start, startE, resVs, resV, resC, allV, retK, Nat.reduceBEq, Nat.reduceAdd, Nat.reduceMul, Nat.reduceLeDiff, Nat.reduceEqDiff, Nat.reduceBNe, Nat.ble_eq, UInt8.reduceToNat])) (fun _ => rfl) (fun r3 => ?_)
    | simp -implicitDefEqProofs only [go_sem, start, startE, resVs, resV, resC, allV, retK, Nat.reduceBEq, Nat.reduceAdd, Nat.reduceMul, Nat.reduceLeDiff, Nat.reduceEqDiff, Nat.reduceBNe, Nat.ble_eq, UInt8.reduceToNat])
theorem ref20_Find_fe {f_0 p_1} {s : Store} {r : ref20_Leaf × Int × Int}  (h : ref20_Find f_0 p_1 = some r) : FE Go.Proofs.Tryz.prog 18 [.agg [.bool true, .sl false 6 f_0.Objects.length (flat f_0.Objects), .sl false 1 f_0.Bytes.B.length (flat f_0.Bytes.B), .sl false 1 f_0.Bytes.Known.length (flat f_0.Bytes.Known), .sl false 1 f_0.Table.Places.length (flat f_0.Table.Places), .int .i64 f_0.Table.Root], .int .i64 p_1] s [.agg [.int .i64 r.1.Page, .sl false 1 r.1.Path.length (flat r.1.Path), .int .i64 r.1.Given.Kind, .int .i64 r.1.Given.N, .str r.1.Given.S.b, .sl false 4 r.1.Given.L.length (flat r.1.Given.L)], .int .i64 r.2.1, .int .i64 r.2.2] s := ref20_Find_fn   ⟨r, h, rfl, rfl⟩
/-- catchword/catchwordlaw20.of -/
def law20_of (l_0 : tree_Leaf) : Option (ref20_Leaf) :=
  some (ref20_Leaf.mk l_0.Page l_0.Path l_0.Given)
def ir_law20_of : IC :=
 (.seq (.reg none [i1 1 (.boxL 6 (.t 0)),
 i1 2 (.allocL [.int .i64 0, .sl true 1 0 [], .int .i64 0, .int .i64 0, .str [], .sl true 4 0 []])] [1, 2])
 (.seq (.reg none [i1 3 (.fieldAddr 0 (.t 1)),
 i1 4 (.load 1 false (.t 3)),
 i1 5 (.fieldAddr 1 (.t 1)),
 i1 6 (.load 1 false (.t 5)),
 i1 7 (.fieldAddr 2 (.t 1)),
 i1 8 (.load 4 true (.t 7)),
 i1 9 (.build [.int .i64 0, .sl true 1 0 [], .int .i64 0, .int .i64 0, .str [], .sl true 4 0 []] [(0, 1, (.t 4)), (1, 1, (.t 6)), (2, 4, (.t 8))]),
 i0 (.store 6 (.t 2) (.t 9))] [2])
 .ret))
def res_law20_of : List IRes := [⟨2, false, some (6, true)⟩]
theorem is_law20_of : fnIs Go.Proofs.Tryz.prog 20 10 res_law20_of ir_law20_of = true := by kernel_rfl
theorem law20_of_fn {l_0} {s : Store} {Q : List AV → Store → Prop}  : ok (law20_of l_0) (fun r => Q [.agg [.int .i64 r.Page, .sl false 1 r.Path.length (flat r.Path), .int .i64 r.Given.Kind, .int .i64 r.Given.N, .str r.Given.S.b, .sl false 4 r.Given.L.length (flat r.Given.L)]] s) → FN Go.Proofs.Tryz.prog 20 [.agg [.int .i64 l_0.Page, .sl false 1 l_0.Path.length (flat l_0.Path), .int .i64 l_0.Given.Kind, .int .i64 l_0.Given.N, .str l_0.Given.S.b, .sl false 4 l_0.Given.L.length (flat l_0.Given.L)]] s Q := by
  intro h
  refine FN.of (draw_ok mix) is_law20_of rfl (Nat.le_of_ble_eq_true rfl) ?_
  revert h
  rw [ir_law20_of, res_law20_of, law20_of]
  repeat' (first
    | with_reducible exact tt_to
    | with_reducible refine and_to ?_ ?_
    | with_reducible refine im_to ?_
    | simp -implicitDefEqProofs only [go_sem, start, startE, resVs, resV, resC, allV, retK, Nat.reduceBEq, Nat.reduceAdd, Nat.reduceMul, Nat.reduceLeDiff, Nat.reduceEqDiff, Nat.reduceBNe, Nat.ble_eq, UInt8.reduceToNat])
theorem law20_of_fe {l_0} {s : Store} {r : ref20_Leaf}  (h : law20_of l_0 = some r) : FE Go.Proofs.Tryz.prog 20 [.agg [.int .i64 l_0.Page, .sl false 1 l_0.Path.length (flat l_0.Path), .int .i64 l_0.Given.Kind, .int .i64 l_0.Given.N, .str l_0.Given.S.b, .sl false 4 l_0.Given.L.length (flat l_0.Given.L)]] s [.agg [.int .i64 r.Page, .sl false 1 r.Path.length (flat r.Path), .int .i64 r.Given.Kind, .int .i64 r.Given.N, .str r.Given.S.b, .sl false 4 r.Given.L.length (flat r.Given.L)]] s := law20_of_fn   ⟨r, h, rfl, rfl⟩
/-- catchword/catchwordref11.Compare -/
def ref11_Compare : Nat → api_Value → api_Value → Option (Int)
  | 0, _, _ => none
  | fuel + 1, a_0, b_1 =>
    if (decide (a_0.Kind < b_1.Kind)) || ((a_0.Kind == b_1.Kind) && ((decide (a_0.N < b_1.N)) || ((a_0.N == b_1.N) && (Op.bytesLess a_0.S.b b_1.S.b)))) then
      some (-1)
    else
      if ((a_0.Kind != b_1.Kind) || (a_0.N != b_1.N)) || (!(a_0.S.b == b_1.S.b)) then
        some 1
      else
        jnS (
          bndS (
            iter (fun (k4 : Int) =>
              if (decide (k4 < (a_0.L.length : Int))) && (decide (k4 < (b_1.L.length : Int))) then
                need (0 ≤ k4 ∧ k4 < a_0.L.length) <|
                need (0 ≤ k4 ∧ k4 < b_1.L.length) <|
                bnd (ref11_Compare fuel (ix a_0.L k4) (ix b_1.L k4)) fun r8 =>
                if r8 != 0 then
                  some (.inr (.inr r8))
                else
                  some (.inl (w64 (k4 + 1)))
              else
                some (.inr (.inl ()))) 0) (fun (_ : Unit) =>
            some (.inl ()))
          (fun (t7 : Int) => some (.inr t7))) (fun (_ : Unit) =>
          if decide ((a_0.L.length : Int) < (b_1.L.length : Int)) then
            some (-1)
          else
            if decide ((a_0.L.length : Int) > (b_1.L.length : Int)) then
              some 1
            else
              some 0)
        (fun (t3 : Int) => some t3)
def ir_ref11_Compare : IC :=
 (.seq (.reg none [i1 2 (.boxL 4 (.t 0)),
 i1 3 (.boxL 4 (.t 1)),
 i1 4 (.mov false (.c (.int .i64 0)))] [2, 3])
 (.seq (.block 0 (.seq (.reg none [i1 8 (.fieldAddr 0 (.t 2)),
 i1 9 (.load 1 false (.t 8)),
 i1 10 (.fieldAddr 0 (.t 3)),
 i1 11 (.load 1 false (.t 10)),
 i1 12 (.bin .lss (.t 9) (.t 11)),
 mv 13 12,
 i1g 14 13 false (.fieldAddr 0 (.t 2)),
 i1g 15 13 false (.load 1 false (.t 14)),
 i1g 16 13 false (.fieldAddr 0 (.t 3)),
 i1g 17 13 false (.load 1 false (.t 16)),
 i1g 18 13 false (.bin .eql (.t 15) (.t 17)),
 mvg 19 18 13 false,
 i1g 20 19 true (.fieldAddr 1 (.t 2)),
 i1g 21 19 true (.load 1 false (.t 20)),
 i1g 22 19 true (.fieldAddr 1 (.t 3)),
 i1g 23 19 true (.load 1 false (.t 22)),
 i1g 24 19 true (.bin .lss (.t 21) (.t 23)),
 mvg 25 24 19 true,
 i1g 26 25 false (.fieldAddr 1 (.t 2)),
 i1g 27 25 false (.load 1 false (.t 26)),
 i1g 28 25 false (.fieldAddr 1 (.t 3)),
 i1g 29 25 false (.load 1 false (.t 28)),
 i1g 30 25 false (.bin .eql (.t 27) (.t 29)),
 mvg 31 30 25 false,
 i1g 32 31 true (.fieldAddr 2 (.t 2)),
 i1g 33 31 true (.load 1 false (.t 32)),
 i1g 34 31 true (.fieldAddr 2 (.t 3)),
 i1g 35 31 true (.load 1 false (.t 34)),
 i1g 36 31 true (.bin .lss (.t 33) (.t 35)),
 i1g 37 25 false (.pick (.t 31) (.t 36) (.c (.bool false))),
 i1g 38 19 true (.pick (.t 25) (.c (.bool true)) (.t 37)),
 i1g 39 13 false (.pick (.t 19) (.t 38) (.c (.bool false))),
 i1 40 (.pick (.t 13) (.c (.bool true)) (.t 39)),
 mv 7 40] [2, 3, 7])
 (.cond (.t 7) (.seq (.reg none [i1 4 (.mov false (.c (.int .i64 (-1))))] [4])
 .ret)
 (.seq (.reg none [i1 42 (.fieldAddr 0 (.t 2)),
 i1 43 (.load 1 false (.t 42)),
 i1 44 (.fieldAddr 0 (.t 3)),
 i1 45 (.load 1 false (.t 44)),
 i1 46 (.bin .neq (.t 43) (.t 45)),
 mv 47 46,
 i1g 48 47 false (.fieldAddr 1 (.t 2)),
 i1g 49 47 false (.load 1 false (.t 48)),
 i1g 50 47 false (.fieldAddr 1 (.t 3)),
 i1g 51 47 false (.load 1 false (.t 50)),
 i1g 52 47 false (.bin .neq (.t 49) (.t 51)),
 i1 53 (.pick (.t 47) (.c (.bool true)) (.t 52)),
 mv 54 53,
 i1g 55 54 false (.fieldAddr 2 (.t 2)),
 i1g 56 54 false (.load 1 false (.t 55)),
 i1g 57 54 false (.fieldAddr 2 (.t 3)),
 i1g 58 54 false (.load 1 false (.t 57)),
 i1g 59 54 false (.bin .neq (.t 56) (.t 58)),
 i1 60 (.pick (.t 54) (.c (.bool true)) (.t 59)),
 mv 41 60] [2, 3, 41])
 (.cond (.t 41) (.seq (.reg none [i1 4 (.mov false (.c (.int .i64 1)))] [4])
 .ret)
 .skip)))))
 (.join [(2, false), (3, false)] (.seq (.reg none [i1 5 (.mov false (.c (.int .i64 0)))] [2, 3, 5])
 (.block 1 (.loop [(2, false), (3, false), (5, false)] (.seq (.seq (.reg none [mv 61 5,
 i1 62 (.fieldAddr 3 (.t 2)),
 i1 63 (.load 1 false (.t 62)),
 i1 64 (.len 0 (.t 63)),
 i1 65 (.bin .lss (.t 61) (.t 64)),
 mv 66 65,
 mvg 67 5 66 true,
 i1g 68 66 true (.fieldAddr 3 (.t 3)),
 i1g 69 66 true (.load 1 false (.t 68)),
 i1g 70 66 true (.len 0 (.t 69)),
 i1g 71 66 true (.bin .lss (.t 67) (.t 70)),
 i1 72 (.pick (.t 66) (.t 71) (.c (.bool false)))] [2, 3, 5, 72])
 (.cond (.t 72) .skip
 (.exit 1)))
 (.seq (.block 2 (.seq (.reg (some 12) [i1 75 (.fieldAddr 3 (.t 2)),
 i1 76 (.load 1 false (.t 75)),
 mv 77 5,
 i1 78 (.indexAddr [.int .i64 0, .int .i64 0, .str [], .sl false 4 0 []] (.t 76) (.t 77)),
 i1 79 (.load 4 true (.t 78)),
 i1 80 (.fieldAddr 3 (.t 3)),
 i1 81 (.load 1 false (.t 80)),
 mv 82 5,
 i1 83 (.indexAddr [.int .i64 0, .int .i64 0, .str [], .sl false 4 0 []] (.t 81) (.t 82)),
 i1 84 (.load 4 true (.t 83)),
 i1 85 (.call 75 [(.t 79), (.t 84)]),
 mv 6 85] [2, 3, 5, 6])
 (.seq (.reg none [mv 86 6,
 i1 87 (.bin .neq (.t 86) (.c (.int .i64 0)))] [2, 3, 5, 6, 87])
 (.cond (.t 87) (.seq (.reg none [mv 88 6,
 mv 4 88] [4])
 .ret)
 .skip))))
 (.reg none [mv 73 5,
 i1 74 (.bin .add (.t 73) (.c (.int .i64 1))),
 mv 5 74] [2, 3, 5]))))))
 (.seq (.seq (.reg none [i1 89 (.fieldAddr 3 (.t 2)),
 i1 90 (.load 1 false (.t 89)),
 i1 91 (.len 0 (.t 90)),
 i1 92 (.fieldAddr 3 (.t 3)),
 i1 93 (.load 1 false (.t 92)),
 i1 94 (.len 0 (.t 93)),
 i1 95 (.bin .lss (.t 91) (.t 94))] [2, 3, 95])
 (.cond (.t 95) (.seq (.reg none [i1 4 (.mov false (.c (.int .i64 (-1))))] [4])
 .ret)
 .skip))
 (.seq (.seq (.reg none [i1 96 (.fieldAddr 3 (.t 2)),
 i1 97 (.load 1 false (.t 96)),
 i1 98 (.len 0 (.t 97)),
 i1 99 (.fieldAddr 3 (.t 3)),
 i1 100 (.load 1 false (.t 99)),
 i1 101 (.len 0 (.t 100)),
 i1 102 (.bin .gtr (.t 98) (.t 101))] [102])
 (.cond (.t 102) (.seq (.reg none [i1 4 (.mov false (.c (.int .i64 1)))] [4])
 .ret)
 .skip))
 (.seq (.reg none [i1 4 (.mov false (.c (.int .i64 0)))] [4])
 .ret))))))
def res_ref11_Compare : List IRes := [⟨4, true, none⟩]
theorem is_ref11_Compare : fnIs Go.Proofs.Tryz.prog 75 103 res_ref11_Compare ir_ref11_Compare = true := by kernel_rfl
theorem ref11_Compare_fn {fuel : Nat} : ∀ {a_0 : api_Value} {b_1 : api_Value} {s : Store} {Q : List AV → Store → Prop}, ok (ref11_Compare fuel a_0 b_1) (fun r => Q [.int .i64 r] s) → FN Go.Proofs.Tryz.prog 75 [.agg [.int .i64 a_0.Kind, .int .i64 a_0.N, .str a_0.S.b, .sl false 4 a_0.L.length (flat a_0.L)], .agg [.int .i64 b_1.Kind, .int .i64 b_1.N, .str b_1.S.b, .sl false 4 b_1.L.length (flat b_1.L)]] s Q := by
  induction fuel with
  | zero => intros; rename_i h; rw [ref11_Compare] at h; exact absurd h (by rw [ok_none]; exact fun h => h)
  | succ fuel ih =>
  have ihfe : ∀ {a_0 : api_Value} {b_1 : api_Value} {s : Store} {r : Int}, ref11_Compare fuel a_0 b_1 = some r → FE Go.Proofs.Tryz.prog 75 [.agg [.int .i64 a_0.Kind, .int .i64 a_0.N, .str a_0.S.b, .sl false 4 a_0.L.length (flat a_0.L)], .agg [.int .i64 b_1.Kind, .int .i64 b_1.N, .str b_1.S.b, .sl false 4 b_1.L.length (flat b_1.L)]] s [.int .i64 r] s := fun h => ih ⟨_, h, rfl, rfl⟩
  intro a_0 b_1 s Q
  intro h
  refine FN.of (draw_ok mix) is_ref11_Compare rfl (Nat.le_of_ble_eq_true rfl) ?_
  revert h
  rw [ir_ref11_Compare, res_ref11_Compare, ref11_Compare]
  repeat' (first
    | with_reducible exact tt_to
    | with_reducible refine and_to ?_ ?_
    | with_reducible refine im_to ?_
    | with_reducible refine call_to (fun _ (h : ref11_Compare fuel (ix a_0.L k4) (ix b_1.L k4) = some _) => ihfe h) (fun r8 => ?_)
    | with_reducible refine call_to_q (fun _ (h : ref11_Compare fuel (ix a_0.L k4) (ix b_1.L k4) = some _) => ihfe h) (fun _ => rfl) (fun r8 => ?_)
    | with_reducible refine call_to (fun _ (h : ref11_Compare fuel (ix a_0.L k4) (ix b_1.L k4) = some _) => (by refine FE_cast ?_ (ihfe h); simp -implicitDefEqProofs only [go_sem, start, startE, resVs, resV, resC, allV, retK, Nat.reduceBEq, Nat.reduceAdd, Nat.reduceMul, Nat.reduceLeDiff, Nat.reduceEqDiff, Nat.reduceBNe, Nat.ble_eq, UInt8.reduceToNat])) (fun r8 => ?_)
    | with_reducible refine call_to_q (fun _ (h : ref11_Compare fuel (ix a_0.L k4) (ix b_1.L k4) = some _) => (by refine FE_cast ?_ (ihfe h); simp -implicitDefEqProofs only [go_sem, start, startE, resVs, resV, resC, allV, retK, Nat.reduceBEq, Nat.reduceAdd, Nat.reduceMul, Nat.reduceLeDiff, Nat.reduceEqDiff, Nat.reduceBNe, Nat.ble_eq, UInt8.reduceToNat])) (fun _ => rfl) (fun r8 => ?_)
    | with_reducible refine call_to (fun _ (h : ref11_Compare fuel (ix a_0.L k4) (ix b_1.L k4) = some _) => (by have hx := ihfe (s := s) h; simp -implicitDefEqProofs only [go_sem, start, startE, resVs, resV, resC, allV, retK, Nat.reduceBEq, Nat.reduceAdd, Nat.reduceMul, Nat.reduceLeDiff, Nat.reduceEqDiff, Nat.reduceBNe, Nat.ble_eq, UInt8.reduceToNat] at hx; exact hx)) (fun r8 => ?_)
    | ((with_reducible refine iter_to (fun (k4 : Int) => ⟨[(2, .loc [.int .i64 a_0.Kind, .int .i64 a_0.N, .str a_0.S.b, .sl false 4 a_0.L.length (flat a_0.L)]), (3, .loc [.int .i64 b_1.Kind, .int .i64 b_1.N, .str b_1.S.b, .sl false 4 b_1.L.length (flat b_1.L)]), (5, .int .i64 k4)], [], s⟩) ?_ ?_); (first | exact rfl | simp -implicitDefEqProofs only [go_sem, start, startE, resVs, resV, resC, allV, retK, Nat.reduceBEq, Nat.reduceAdd, Nat.reduceMul, Nat.reduceLeDiff, Nat.reduceEqDiff, Nat.reduceBNe, Nat.ble_eq, UInt8.reduceToNat]); rintro J k4)
    | ((with_reducible refine join_toS (fun (_ : Unit) => ⟨[(2, .loc [.int .i64 a_0.Kind, .int .i64 a_0.N, .str a_0.S.b, .sl false 4 a_0.L.length (flat a_0.L)]), (3, .loc [.int .i64 b_1.Kind, .int .i64 b_1.N, .str b_1.S.b, .sl false 4 b_1.L.length (flat b_1.L)])], [], s⟩) (fun J => ?_) ?_); rotate_left; rintro _)
    | simp -implicitDefEqProofs only [go_sem, start, startE, resVs, resV, resC, allV, retK, Nat.reduceBEq, Nat.reduceAdd, Nat.reduceMul, Nat.reduceLeDiff, Nat.reduceEqDiff, Nat.reduceBNe, Nat.ble_eq, UInt8.reduceToNat])
theorem ref11_Compare_fe {fuel : Nat} {a_0 b_1} {s : Store} {r : Int} (h : ref11_Compare fuel a_0 b_1 = some r) : FE Go.Proofs.Tryz.prog 75 [.agg [.int .i64 a_0.Kind, .int .i64 a_0.N, .str a_0.S.b, .sl false 4 a_0.L.length (flat a_0.L)], .agg [.int .i64 b_1.Kind, .int .i64 b_1.N, .str b_1.S.b, .sl false 4 b_1.L.length (flat b_1.L)]] s [.int .i64 r] s := ref11_Compare_fn ⟨r, h, rfl, rfl⟩
/-- catchword/catchwordref11.Same -/
def ref11_Same (a_0 : api_Value) (b_1 : api_Value) : Option (Bool) :=
  bnd (ref11_Compare bigN a_0 b_1) fun r1 =>
  some (r1 == 0)
def ir_ref11_Same : IC :=
 (.seq (.reg none [i1 2 (.boxL 4 (.t 0)),
 i1 3 (.boxL 4 (.t 1)),
 i1 4 (.mov false (.c (.bool false)))] [2, 3])
 (.seq (.reg none [i1 5 (.load 4 true (.t 2)),
 i1 6 (.load 4 true (.t 3)),
 i1 7 (.call 75 [(.t 5), (.t 6)]),
 i1 8 (.bin .eql (.t 7) (.c (.int .i64 0))),
 mv 4 8] [4])
 .ret))
def res_ref11_Same : List IRes := [⟨4, true, none⟩]
theorem is_ref11_Same : fnIs Go.Proofs.Tryz.prog 51 9 res_ref11_Same ir_ref11_Same = true := by kernel_rfl
theorem ref11_Same_fn {a_0 b_1} {s : Store} {Q : List AV → Store → Prop}  : ok (ref11_Same a_0 b_1) (fun r => Q [.bool r] s) → FN Go.Proofs.Tryz.prog 51 [.agg [.int .i64 a_0.Kind, .int .i64 a_0.N, .str a_0.S.b, .sl false 4 a_0.L.length (flat a_0.L)], .agg [.int .i64 b_1.Kind, .int .i64 b_1.N, .str b_1.S.b, .sl false 4 b_1.L.length (flat b_1.L)]] s Q := by
  intro h
  refine FN.of (draw_ok mix) is_ref11_Same rfl (Nat.le_of_ble_eq_true rfl) ?_
  revert h
  rw [ir_ref11_Same, res_ref11_Same, ref11_Same]
  repeat' (first
    | with_reducible exact tt_to
    | with_reducible refine and_to ?_ ?_
    | with_reducible refine im_to ?_
    | with_reducible refine call_to (fun _ (h : ref11_Compare bigN a_0 b_1 = some _) => ref11_Compare_fe h) (fun r1 => ?_)
    | with_reducible refine call_to_q (fun _ (h : ref11_Compare bigN a_0 b_1 = some _) => ref11_Compare_fe h) (fun _ => rfl) (fun r1 => ?_)
    | with_reducible refine call_to (fun _ (h : ref11_Compare bigN a_0 b_1 = some _) => (by refine FE_cast ?_ (ref11_Compare_fe h); simp -implicitDefEqProofs only [go_sem, start, startE, resVs, resV, resC, allV, retK, Nat.reduceBEq, Nat.reduceAdd, Nat.reduceMul, Nat.reduceLeDiff, Nat.reduceEqDiff, Nat.reduceBNe, Nat.ble_eq, UInt8.reduceToNat])) (fun r1 => ?_)
    | with_reducible refine call_to_q (fun _ (h : ref11_Compare bigN a_0 b_1 = some _) => (by refine FE_cast ?_ (ref11_Compare_fe h); simp -implicitDefEqProofs only [go_sem, start, startE, resVs, resV, resC, allV, retK, Nat.reduceBEq, Nat.reduceAdd, Nat.reduceMul, Nat.reduceLeDiff, Nat.reduceEqDiff, Nat.reduceBNe, Nat.ble_eq, UInt8.reduceToNat])) (fun _ => rfl) (fun r1 => ?_)
    | simp -implicitDefEqProofs only [go_sem, start, startE, resVs, resV, resC, allV, retK, Nat.reduceBEq, Nat.reduceAdd, Nat.reduceMul, Nat.reduceLeDiff, Nat.reduceEqDiff, Nat.reduceBNe, Nat.ble_eq, UInt8.reduceToNat])
theorem ref11_Same_fe {a_0 b_1} {s : Store} {r : Bool}  (h : ref11_Same a_0 b_1 = some r) : FE Go.Proofs.Tryz.prog 51 [.agg [.int .i64 a_0.Kind, .int .i64 a_0.N, .str a_0.S.b, .sl false 4 a_0.L.length (flat a_0.L)], .agg [.int .i64 b_1.Kind, .int .i64 b_1.N, .str b_1.S.b, .sl false 4 b_1.L.length (flat b_1.L)]] s [.bool r] s := ref11_Same_fn   ⟨r, h, rfl, rfl⟩
/-- catchword/catchwordref20.Same -/
def ref20_Same (a_0 : ref20_Leaf) (b_1 : ref20_Leaf) : Option (Bool) :=
  bnd (whenB (!((a_0.Page != b_1.Page) || ((a_0.Path.length : Int) != (b_1.Path.length : Int)))) false (ref11_Same a_0.Given b_1.Given)) fun r1 =>
  if ((a_0.Page != b_1.Page) || ((a_0.Path.length : Int) != (b_1.Path.length : Int))) || !r1 then
    some false
  else
    jnS (
      bndS (
        iter (fun (k3 : Int) =>
          if decide (k3 < (a_0.Path.length : Int)) then
            need (0 ≤ k3 ∧ k3 < a_0.Path.length) <|
            need (0 ≤ k3 ∧ k3 < b_1.Path.length) <|
            if (ix a_0.Path k3) != (ix b_1.Path k3) then
              some (.inr (.inr false))
            else
              some (.inl (w64 (k3 + 1)))
          else
            some (.inr (.inl ()))) 0) (fun (_ : Unit) =>
        some (.inl ()))
      (fun (t4 : Bool) => some (.inr t4))) (fun (_ : Unit) =>
      some true)
    (fun (t2 : Bool) => some t2)
def ir_ref20_Same : IC :=
 (.seq (.reg none [i1 2 (.boxL 6 (.t 0)),
 i1 3 (.boxL 6 (.t 1)),
 i1 4 (.mov false (.c (.bool false)))] [2, 3])
 (.seq (.seq (.reg (some 20) [i1 6 (.fieldAddr 0 (.t 2)),
 i1 7 (.load 1 false (.t 6)),
 i1 8 (.fieldAddr 0 (.t 3)),
 i1 9 (.load 1 false (.t 8)),
 i1 10 (.bin .neq (.t 7) (.t 9)),
 mv 11 10,
 i1g 12 11 false (.fieldAddr 1 (.t 2)),
 i1g 13 11 false (.load 1 false (.t 12)),
 i1g 14 11 false (.len 0 (.t 13)),
 i1g 15 11 false (.fieldAddr 1 (.t 3)),
 i1g 16 11 false (.load 1 false (.t 15)),
 i1g 17 11 false (.len 0 (.t 16)),
 i1g 18 11 false (.bin .neq (.t 14) (.t 17)),
 i1 19 (.pick (.t 11) (.c (.bool true)) (.t 18)),
 mv 20 19,
 i1g 21 20 false (.fieldAddr 2 (.t 2)),
 i1g 22 20 false (.load 4 true (.t 21)),
 i1g 23 20 false (.fieldAddr 2 (.t 3)),
 i1g 24 20 false (.load 4 true (.t 23)),
 i1g 25 20 false (.call 51 [(.t 22), (.t 24)]),
 i1g 26 20 false (.un .not (.t 25)),
 i1 27 (.pick (.t 20) (.c (.bool true)) (.t 26))] [2, 3, 27])
 (.cond (.t 27) (.seq (.reg none [i1 4 (.mov false (.c (.bool false)))] [4])
 .ret)
 .skip))
 (.join [] (.seq (.reg none [i1 5 (.mov false (.c (.int .i64 0)))] [2, 3, 5])
 (.block 0 (.loop [(2, false), (3, false), (5, false)] (.seq (.seq (.reg none [mv 28 5,
 i1 29 (.fieldAddr 1 (.t 2)),
 i1 30 (.load 1 false (.t 29)),
 i1 31 (.len 0 (.t 30)),
 i1 32 (.bin .lss (.t 28) (.t 31))] [2, 3, 5, 32])
 (.cond (.t 32) .skip
 (.exit 0)))
 (.seq (.block 1 (.seq (.reg (some 11) [i1 35 (.fieldAddr 1 (.t 2)),
 i1 36 (.load 1 false (.t 35)),
 mv 37 5,
 i1 38 (.indexAddr [.int .i64 0] (.t 36) (.t 37)),
 i1 39 (.load 1 false (.t 38)),
 i1 40 (.fieldAddr 1 (.t 3)),
 i1 41 (.load 1 false (.t 40)),
 mv 42 5,
 i1 43 (.indexAddr [.int .i64 0] (.t 41) (.t 42)),
 i1 44 (.load 1 false (.t 43)),
 i1 45 (.bin .neq (.t 39) (.t 44))] [2, 3, 5, 45])
 (.cond (.t 45) (.seq (.reg none [i1 4 (.mov false (.c (.bool false)))] [4])
 .ret)
 .skip)))
 (.reg none [mv 33 5,
 i1 34 (.bin .add (.t 33) (.c (.int .i64 1))),
 mv 5 34] [2, 3, 5]))))))
 (.seq (.reg none [i1 4 (.mov false (.c (.bool true)))] [4])
 .ret))))
def res_ref20_Same : List IRes := [⟨4, true, none⟩]
theorem is_ref20_Same : fnIs Go.Proofs.Tryz.prog 19 46 res_ref20_Same ir_ref20_Same = true := by kernel_rfl
theorem ref20_Same_fn {a_0 b_1} {s : Store} {Q : List AV → Store → Prop}  : ok (ref20_Same a_0 b_1) (fun r => Q [.bool r] s) → FN Go.Proofs.Tryz.prog 19 [.agg [.int .i64 a_0.Page, .sl false 1 a_0.Path.length (flat a_0.Path), .int .i64 a_0.Given.Kind, .int .i64 a_0.Given.N, .str a_0.Given.S.b, .sl false 4 a_0.Given.L.length (flat a_0.Given.L)], .agg [.int .i64 b_1.Page, .sl false 1 b_1.Path.length (flat b_1.Path), .int .i64 b_1.Given.Kind, .int .i64 b_1.Given.N, .str b_1.Given.S.b, .sl false 4 b_1.Given.L.length (flat b_1.Given.L)]] s Q := by
  intro h
  refine FN.of (draw_ok mix) is_ref20_Same rfl (Nat.le_of_ble_eq_true rfl) ?_
  revert h
  rw [ir_ref20_Same, res_ref20_Same, ref20_Same]
  repeat' (first
    | with_reducible exact tt_to
    | with_reducible refine and_to ?_ ?_
    | with_reducible refine im_to ?_
    | with_reducible refine call_to_g rfl (fun _ (h : ref11_Same a_0.Given b_1.Given = some _) => ref11_Same_fe h) (fun _ => rfl) (fun r1 => ?_)
    | with_reducible refine call_to_g rfl (fun _ (h : ref11_Same a_0.Given b_1.Given = some _) => (by refine FE_cast ?_ (ref11_Same_fe h); simp -implicitDefEqProofs only [go_sem, start, startE, resVs, resV, resC, allV, retK, Nat.reduceBEq, Nat.reduceAdd, Nat.reduceMul, Nat.reduceLeDiff, Nat.reduceEqDiff, Nat.reduceBNe, Nat.ble_eq, UInt8.reduceToNat])) (fun _ => rfl) (fun r1 => ?_)
    | ((with_reducible refine iter_to (fun (k3 : Int) => ⟨[(2, .loc [.int .i64 a_0.Page, .sl false 1 a_0.Path.length (flat a_0.Path), .int .i64 a_0.Given.Kind, .int .i64 a_0.Given.N, .str a_0.Given.S.b, .sl false 4 a_0.Given.L.length (flat a_0.Given.L)]), (3, .loc [.int .i64 b_1.Page, .sl false 1 b_1.Path.length (flat b_1.Path), .int .i64 b_1.Given.Kind, .int .i64 b_1.Given.N, .str b_1.Given.S.b, .sl false 4 b_1.Given.L.length (flat b_1.Given.L)]), (5, .int .i64 k3)], [], s⟩) ?_ ?_); (first | exact rfl | simp -implicitDefEqProofs only [go_sem, start, startE, resVs, resV, resC, allV, retK, Nat.reduceBEq, Nat.reduceAdd, Nat.reduceMul, Nat.reduceLeDiff, Nat.reduceEqDiff, Nat.reduceBNe, Nat.ble_eq, UInt8.reduceToNat]); rintro J k3)
    | ((with_reducible refine join_toS (fun (_ : Unit) => ⟨[], [], s⟩) (fun J => ?_) ?_); rotate_left; rintro _)
    | simp -implicitDefEqProofs only [go_sem, start, startE, resVs, resV, resC, allV, retK, Nat.reduceBEq, Nat.reduceAdd, Nat.reduceMul, Nat.reduceLeDiff, Nat.reduceEqDiff, Nat.reduceBNe, Nat.ble_eq, UInt8.reduceToNat])
theorem ref20_Same_fe {a_0 b_1} {s : Store} {r : Bool}  (h : ref20_Same a_0 b_1 = some r) : FE Go.Proofs.Tryz.prog 19 [.agg [.int .i64 a_0.Page, .sl false 1 a_0.Path.length (flat a_0.Path), .int .i64 a_0.Given.Kind, .int .i64 a_0.Given.N, .str a_0.Given.S.b, .sl false 4 a_0.Given.L.length (flat a_0.Given.L)], .agg [.int .i64 b_1.Page, .sl false 1 b_1.Path.length (flat b_1.Path), .int .i64 b_1.Given.Kind, .int .i64 b_1.Given.N, .str b_1.Given.S.b, .sl false 4 b_1.Given.L.length (flat b_1.Given.L)]] s [.bool r] s := ref20_Same_fn   ⟨r, h, rfl, rfl⟩
/-- catchword/catchwordlaw20.TreeFinds -/
def law20_TreeFinds (d_0 : api_Doc) (p_1 : Int) : Option (Bool) :=
  bnd (ref19_Few d_0.Objects 80) fun r1 =>
  if !r1 then
    bnd (law20_works) fun r2 =>
    some r2
  else
    bnd (file_Of d_0) fun r3 =>
    bnd (tree_Find r3 p_1) fun r4 =>
    bnd (ref19_Of d_0) fun r5 =>
    bnd (ref20_Find r5 p_1) fun r6 =>
    bnd (law20_of r4.1) fun r7 =>
    bnd (ref20_Same r7 r6.1) fun r8 =>
    bnd (whenB ((r8 && (r4.2.1 == 0)) && (r4.2.2 == r6.2.2)) false (law20_works)) fun r9 =>
    some (((r8 && (r4.2.1 == 0)) && (r4.2.2 == r6.2.2)) && r9)
def ir_law20_TreeFinds : IC :=
 (.seq (.reg none [i1 2 (.boxL 2 (.t 0)),
 i1 4 (.mov false (.c (.bool false)))] [1, 2])
 (.seq (.seq (.reg none [i1 11 (.fieldAddr 0 (.t 2)),
 i1 12 (.load 1 false (.t 11)),
 i1 13 (.call 6 [(.t 12), (.c (.int .i64 80))]),
 i1 14 (.un .not (.t 13))] [1, 2, 14])
 (.cond (.t 14) (.seq (.reg none [i1 15 (.call 16 []),
 mv 4 15] [4])
 .ret)
 .skip))
 (.seq (.reg none [i1 17 (.load 2 true (.t 2)),
 i1 18 (.call 10 [(.t 17)]),
 mv 19 1,
 i1 20 (.call 17 [(.t 18), (.t 19)]),
 i1 16 (.movT (.t 20)),
 i1 21 (.extract (.t 16) 0),
 i1 22 (.extract (.t 16) 1),
 i1 23 (.extract (.t 16) 2),
 i1 5 (.allocL [.int .i64 0, .sl true 1 0 [], .int .i64 0, .int .i64 0, .str [], .sl true 4 0 []]),
 i0 (.store 6 (.t 5) (.t 21)),
 mv 6 22,
 mv 7 23] [1, 2, 5, 6, 7])
 (.seq (.reg none [i1 25 (.load 2 true (.t 2)),
 i1 26 (.call 13 [(.t 25)]),
 mv 27 1,
 i1 28 (.call 18 [(.t 26), (.t 27)]),
 i1 24 (.movT (.t 28)),
 i1 29 (.extract (.t 24) 0),
 i1 30 (.extract (.t 24) 1),
 i1 31 (.extract (.t 24) 2),
 i1 8 (.allocL [.int .i64 0, .sl true 1 0 [], .int .i64 0, .int .i64 0, .str [], .sl true 4 0 []]),
 i0 (.store 6 (.t 8) (.t 29)),
 mv 9 30,
 mv 10 31] [5, 6, 7, 8, 10])
 (.seq (.reg (some 17) [i1 32 (.load 6 true (.t 5)),
 i1 33 (.call 20 [(.t 32)]),
 i1 34 (.load 6 true (.t 8)),
 i1 35 (.call 19 [(.t 33), (.t 34)]),
 mv 36 35,
 mvg 37 6 36 true,
 i1g 38 36 true (.bin .eql (.t 37) (.c (.int .i64 0))),
 i1 39 (.pick (.t 36) (.t 38) (.c (.bool false))),
 mv 40 39,
 mvg 41 7 40 true,
 mvg 42 10 40 true,
 i1g 43 40 true (.bin .eql (.t 41) (.t 42)),
 i1 44 (.pick (.t 40) (.t 43) (.c (.bool false))),
 mv 45 44,
 i1g 46 45 true (.call 16 []),
 i1 47 (.pick (.t 45) (.t 46) (.c (.bool false))),
 mv 4 47] [4])
 .ret)))))
def res_law20_TreeFinds : List IRes := [⟨4, true, none⟩]
theorem is_law20_TreeFinds : fnIs Go.Proofs.Tryz.prog 4 48 res_law20_TreeFinds ir_law20_TreeFinds = true := by kernel_rfl
theorem law20_TreeFinds_fn {d_0 p_1} {s : Store} {Q : List AV → Store → Prop}  : ok (law20_TreeFinds d_0 p_1) (fun r => Q [.bool r] s) → FN Go.Proofs.Tryz.prog 4 [.agg [.sl false 6 d_0.Objects.length (flat d_0.Objects), .int .i64 d_0.Root], .int .i64 p_1] s Q := by
  intro h
  refine FN.forget ?_
  refine FN.of (draw_ok mix) is_law20_TreeFinds rfl (Nat.le_of_ble_eq_true rfl) ?_
  revert h
  rw [ir_law20_TreeFinds, res_law20_TreeFinds, law20_TreeFinds]
  repeat' (first
    | with_reducible exact tt_to
    | with_reducible refine and_to ?_ ?_
    | with_reducible refine im_to ?_
    | with_reducible refine call_to (fun _ (h : ref19_Few d_0.Objects 80 = some _) => ref19_Few_fe h) (fun r1 => ?_)
    | with_reducible refine call_to_q (fun _ (h : ref19_Few d_0.Objects 80 = some _) => ref19_Few_fe h) (fun _ => rfl) (fun r1 => ?_)
    | with_reducible refine call_to (fun _ (h : ref19_Few d_0.Objects 80 = some _) => (by refine FE_cast ?_ (ref19_Few_fe h); simp -implicitDefEqProofs only [go_sem, start, startE, resVs, resV, resC, allV, retK, Nat.reduceBEq, Nat.reduceAdd, Nat.reduceMul, Nat.reduceLeDiff, Nat.reduceEqDiff, Nat.reduceBNe, Nat.ble_eq, UInt8.reduceToNat])) (fun r1 => ?_)
    | with_reducible refine call_to_q (fun _ (h : ref19_Few d_0.Objects 80 = some _) => (by refine FE_cast ?_ (ref19_Few_fe h); simp -implicitDefEqProofs only [go_sem, start, startE, resVs, resV, resC, allV, retK, Nat.reduceBEq, Nat.reduceAdd, Nat.reduceMul, Nat.reduceLeDiff, Nat.reduceEqDiff, Nat.reduceBNe, Nat.ble_eq, UInt8.reduceToNat])) (fun _ => rfl) (fun r1 => ?_)
    | ((fail_if_success (have _x := r2)); with_reducible refine call_to (fun _ (h : law20_works = some _) => law20_works_fe h) (fun r2 => ?_))
    | ((fail_if_success (have _x := r2)); with_reducible refine call_to_q (fun _ (h : law20_works = some _) => law20_works_fe h) (fun _ => rfl) (fun r2 => ?_))
    | ((fail_if_success (have _x := r2)); with_reducible refine call_to (fun _ (h : law20_works = some _) => (by refine FE_cast ?_ (law20_works_fe h); simp -implicitDefEqProofs only [go_sem, start, startE, resVs, resV, resC, allV, retK, Nat.reduceBEq, Nat.reduceAdd, Nat.reduceMul, Nat.reduceLeDiff, Nat.reduceEqDiff, Nat.reduceBNe, Nat.ble_eq, UInt8.reduceToNat])) (fun r2 => ?_))
    | ((fail_if_success (have _x := r2)); with_reducible refine call_to_q (fun _ (h : law20_works = some _) => (by refine FE_cast ?_ (law20_works_fe h); simp -implicitDefEqProofs only [go_sem, start, startE, resVs, resV, resC, allV, retK, Nat.reduceBEq, Nat.reduceAdd, Nat.reduceMul, Nat.reduceLeDiff, Nat.reduceEqDiff, Nat.reduceBNe, Nat.ble_eq, UInt8.reduceToNat])) (fun _ => rfl) (fun r2 => ?_))
    | with_reducible refine fun hh => file_Of_fn (ok_mono (show ok (file_Of d_0) _ from hh) fun r3 => ?_)
    | with_reducible refine call_to (fun _ (h : tree_Find r3 p_1 = some _) => tree_Find_fe (B0 := N2) (B0_get_ := N1) (by simp -implicitDefEqProofs only [go_sem, start, startE, resVs, resV, resC, allV, retK, Nat.reduceBEq, Nat.reduceAdd, Nat.reduceMul, Nat.reduceLeDiff, Nat.reduceEqDiff, Nat.reduceBNe, Nat.ble_eq, UInt8.reduceToNat, set_ne nN2N1, set_ne nN2N1.symm, set_comm nN2N1.symm]) (by simp -implicitDefEqProofs only [go_sem, start, startE, resVs, resV, resC, allV, retK, Nat.reduceBEq, Nat.reduceAdd, Nat.reduceMul, Nat.reduceLeDiff, Nat.reduceEqDiff, Nat.reduceBNe, Nat.ble_eq, UInt8.reduceToNat, set_ne nN2N1, set_ne nN2N1.symm, set_comm nN2N1.symm]) nN2N1 h) (fun r4 => ?_)
    | with_reducible refine call_to_q (fun _ (h : tree_Find r3 p_1 = some _) => tree_Find_fe (B0 := N2) (B0_get_ := N1) (by simp -implicitDefEqProofs only [go_sem, start, startE, resVs, resV, resC, allV, retK, Nat.reduceBEq, Nat.reduceAdd, Nat.reduceMul, Nat.reduceLeDiff, Nat.reduceEqDiff, Nat.reduceBNe, Nat.ble_eq, UInt8.reduceToNat, set_ne nN2N1, set_ne nN2N1.symm, set_comm nN2N1.symm]) (by simp -implicitDefEqProofs only [go_sem, start, startE, resVs, resV, resC, allV, retK, Nat.reduceBEq, Nat.reduceAdd, Nat.reduceMul, Nat.reduceLeDiff, Nat.reduceEqDiff, Nat.reduceBNe, Nat.ble_eq, UInt8.reduceToNat, set_ne nN2N1, set_ne nN2N1.symm, set_comm nN2N1.symm]) nN2N1 h) (fun _ => rfl) (fun r4 => ?_)
    | with_reducible refine call_to (fun _ (h : ref19_Of d_0 = some _) => ref19_Of_fe h) (fun r5 => ?_)
    | with_reducible refine call_to_q (fun _ (h : ref19_Of d_0 = some _) => ref19_Of_fe h) (fun _ => rfl) (fun r5 => ?_)
    | with_reducible refine call_to (fun _ (h : ref19_Of d_0 = some _) => (by refine FE_cast ?_ (ref19_Of_fe h); simp -implicitDefEqProofs only [go_sem, start, startE, resVs, resV, resC, allV, retK, Nat.reduceBEq, Nat.reduceAdd, Nat.reduceMul, Nat.reduceLeDiff, Nat.reduceEqDiff, Nat.reduceBNe, Nat.ble_eq, UInt8.reduceToNat])) (fun r5 => ?_)
    | with_reducible refine call_to_q (fun _ (h : ref19_Of d_0 = some _) => (by refine FE_cast ?_ (ref19_Of_fe h); simp -implicitDefEqProofs only [go_sem, start, startE, resVs, resV, resC, allV, retK, Nat.reduceBEq, Nat.reduceAdd, Nat.reduceMul, Nat.reduceLeDiff, Nat.reduceEqDiff, Nat.reduceBNe, Nat.ble_eq, UInt8.reduceToNat])) (fun _ => rfl) (fun r5 => ?_)
    | with_reducible refine call_to (fun _ (h : ref20_Find r5 p_1 = some _) => ref20_Find_fe h) (fun r6 => ?_)
    | with_reducible refine call_to_q (fun _ (h : ref20_Find r5 p_1 = some _) => ref20_Find_fe h) (fun _ => rfl) (fun r6 => ?_)
    | with_reducible refine call_to (fun _ (h : ref20_Find r5 p_1 = some _) => (by refine FE_cast ?_ (ref20_Find_fe h); simp -implicitDefEqProofs only [go_sem, start, startE, resVs, resV, resC, allV, retK, Nat.reduceBEq, Nat.reduceAdd, Nat.reduceMul, Nat.reduceLeDiff, Nat.reduceEqDiff, Nat.reduceBNe, Nat.ble_eq, UInt8.reduceToNat])) (fun r6 => ?_)
    | with_reducible refine call_to_q (fun _ (h : ref20_Find r5 p_1 = some _) => (by refine FE_cast ?_ (ref20_Find_fe h); simp -implicitDefEqProofs only [go_sem, start, startE, resVs, resV, resC, allV, retK, Nat.reduceBEq, Nat.reduceAdd, Nat.reduceMul, Nat.reduceLeDiff, Nat.reduceEqDiff, Nat.reduceBNe, Nat.ble_eq, UInt8.reduceToNat])) (fun _ => rfl) (fun r6 => ?_)
    | with_reducible refine call_to (fun _ (h : law20_of r4.1 = some _) => law20_of_fe h) (fun r7 => ?_)
    | with_reducible refine call_to_q (fun _ (h : law20_of r4.1 = some _) => law20_of_fe h) (fun _ => rfl) (fun r7 => ?_)
    | with_reducible refine call_to (fun _ (h : law20_of r4.1 = some _) => (by refine FE_cast ?_ (law20_of_fe h); simp -implicitDefEqProofs only [go_sem, start, startE, resVs, resV, resC, allV, retK, Nat.reduceBEq, Nat.reduceAdd, Nat.reduceMul, Nat.reduceLeDiff, Nat.reduceEqDiff, Nat.reduceBNe, Nat.ble_eq, UInt8.reduceToNat])) (fun r7 => ?_)
    | with_reducible refine call_to_q (fun _ (h : law20_of r4.1 = some _) => (by refine FE_cast ?_ (law20_of_fe h); simp -implicitDefEqProofs only [go_sem, start, startE, resVs, resV, resC, allV, retK, Nat.reduceBEq, Nat.reduceAdd, Nat.reduceMul, Nat.reduceLeDiff, Nat.reduceEqDiff, Nat.reduceBNe, Nat.ble_eq, UInt8.reduceToNat])) (fun _ => rfl) (fun r7 => ?_)
    | with_reducible refine call_to (fun _ (h : ref20_Same r7 r6.1 = some _) => ref20_Same_fe h) (fun r8 => ?_)
    | with_reducible refine call_to_q (fun _ (h : ref20_Same r7 r6.1 = some _) => ref20_Same_fe h) (fun _ => rfl) (fun r8 => ?_)
    | with_reducible refine call_to (fun _ (h : ref20_Same r7 r6.1 = some _) => (by refine FE_cast ?_ (ref20_Same_fe h); simp -implicitDefEqProofs only [go_sem, start, startE, resVs, resV, resC, allV, retK, Nat.reduceBEq, Nat.reduceAdd, Nat.reduceMul, Nat.reduceLeDiff, Nat.reduceEqDiff, Nat.reduceBNe, Nat.ble_eq, UInt8.reduceToNat])) (fun r8 => ?_)
    | with_reducible refine call_to_q (fun _ (h : ref20_Same r7 r6.1 = some _) => (by refine FE_cast ?_ (ref20_Same_fe h); simp -implicitDefEqProofs only [go_sem, start, startE, resVs, resV, resC, allV, retK, Nat.reduceBEq, Nat.reduceAdd, Nat.reduceMul, Nat.reduceLeDiff, Nat.reduceEqDiff, Nat.reduceBNe, Nat.ble_eq, UInt8.reduceToNat])) (fun _ => rfl) (fun r8 => ?_)
    | ((fail_if_success (have _x := r9)); with_reducible refine call_to_g rfl (fun _ (h : law20_works = some _) => law20_works_fe h) (fun _ => rfl) (fun r9 => ?_))
    | ((fail_if_success (have _x := r9)); with_reducible refine call_to_g rfl (fun _ (h : law20_works = some _) => (by refine FE_cast ?_ (law20_works_fe h); simp -implicitDefEqProofs only [go_sem, start, startE, resVs, resV, resC, allV, retK, Nat.reduceBEq, Nat.reduceAdd, Nat.reduceMul, Nat.reduceLeDiff, Nat.reduceEqDiff, Nat.reduceBNe, Nat.ble_eq, UInt8.reduceToNat])) (fun _ => rfl) (fun r9 => ?_))
    | ((fail_if_success (have _x := sN1)); with_reducible intro hh N1 hN1; (try simp only [set_none] at hN1); have sN1 := hN1; revert hh)
    | (have _x := sN1; clear _x; (fail_if_success (have _x := sN2)); with_reducible intro hh N2 hN2; (try simp only [set_none] at hN2); obtain ⟨nN2N1, sN2⟩ := hN2; revert hh)
    | with_reducible exact fun hh => ⟨_, SubS.set (SubS.set (SubS.refl _) (by simp [Store.set, sN1])) (by simp [Store.set, sN2]), hh⟩
    | with_reducible exact fun hh => ⟨_, SubS.set (SubS.refl _) (by simp [Store.set, sN1]), hh⟩
    | with_reducible exact fun hh => ⟨_, SubS.refl _, hh⟩
    | simp -implicitDefEqProofs only [go_sem, start, startE, resVs, resV, resC, allV, retK, Nat.reduceBEq, Nat.reduceAdd, Nat.reduceMul, Nat.reduceLeDiff, Nat.reduceEqDiff, Nat.reduceBNe, Nat.ble_eq, UInt8.reduceToNat, set_ne nN2N1, set_ne nN2N1.symm, set_comm nN2N1.symm]
    | simp -implicitDefEqProofs only [go_sem, start, startE, resVs, resV, resC, allV, retK, Nat.reduceBEq, Nat.reduceAdd, Nat.reduceMul, Nat.reduceLeDiff, Nat.reduceEqDiff, Nat.reduceBNe, Nat.ble_eq, UInt8.reduceToNat]
    | simp -implicitDefEqProofs only [go_sem, start, startE, resVs, resV, resC, allV, retK, Nat.reduceBEq, Nat.reduceAdd, Nat.reduceMul, Nat.reduceLeDiff, Nat.reduceEqDiff, Nat.reduceBNe, Nat.ble_eq, UInt8.reduceToNat])
theorem law20_TreeFinds_fe {d_0 p_1} {s : Store} {r : Bool}  (h : law20_TreeFinds d_0 p_1 = some r) : FE Go.Proofs.Tryz.prog 4 [.agg [.sl false 6 d_0.Objects.length (flat d_0.Objects), .int .i64 d_0.Root], .int .i64 p_1] s [.bool r] s := law20_TreeFinds_fn   ⟨r, h, rfl, rfl⟩
/-- catchword/catchwordref20.Pages -/
def ref20_Pages (f_0 : ref19_File) : Option (Int × Int × Int) :=
  bnd (ref20_top f_0) fun r1 =>
  if r1.2.2.2 != 0 then
    some (0, r1.2.2.1, r1.2.2.2)
  else
    bnd (ref20_Node r1.2.1) fun r2 =>
    some (r2.1, 0, 0)
def ir_ref20_Pages : IC :=
 (.seq (.reg none [i1 1 (.boxL 6 (.t 0)),
 i1 2 (.mov false (.c (.int .i64 0))),
 i1 3 (.mov false (.c (.int .i64 0))),
 i1 4 (.mov false (.c (.int .i64 0)))] [1])
 (.seq (.reg none [i1 13 (.load 6 true (.t 1)),
 i1 14 (.call 48 [(.t 13)]),
 i1 12 (.movT (.t 14)),
 i1 15 (.extract (.t 12) 0),
 i1 16 (.extract (.t 12) 1),
 i1 17 (.extract (.t 12) 2),
 i1 18 (.extract (.t 12) 3),
 i1 6 (.allocL [.int .i64 0, .int .i64 0, .str [], .sl true 4 0 [], .bool false, .str []]),
 mv 5 15,
 i0 (.store 6 (.t 6) (.t 16)),
 mv 7 17,
 mv 8 18] [6, 7, 8])
 (.seq (.seq (.reg none [mv 19 8,
 i1 20 (.bin .neq (.t 19) (.c (.int .i64 0)))] [6, 7, 8, 20])
 (.cond (.t 20) (.seq (.reg none [mv 21 7,
 mv 22 8,
 i1 2 (.mov false (.c (.int .i64 0))),
 mv 3 21,
 mv 4 22] [2, 3, 4])
 .ret)
 .skip))
 (.seq (.reg none [i1 24 (.load 6 true (.t 6)),
 i1 25 (.call 49 [(.t 24)]),
 i1 23 (.movT (.t 25)),
 i1 26 (.extract (.t 23) 0),
 i1 27 (.extract (.t 23) 1),
 i1 28 (.extract (.t 23) 2),
 mv 9 26,
 mt 10 27,
 mv 11 28] [9])
 (.seq (.reg none [mv 29 9,
 mv 2 29,
 i1 3 (.mov false (.c (.int .i64 0))),
 i1 4 (.mov false (.c (.int .i64 0)))] [2, 3, 4])
 .ret)))))
def res_ref20_Pages : List IRes := [⟨2, true, none⟩, ⟨3, true, none⟩, ⟨4, true, none⟩]
theorem is_ref20_Pages : fnIs Go.Proofs.Tryz.prog 22 30 res_ref20_Pages ir_ref20_Pages = true := by kernel_rfl
theorem ref20_Pages_fn {f_0} {s : Store} {Q : List AV → Store → Prop}  : ok (ref20_Pages f_0) (fun r => Q [.int .i64 r.1, .int .i64 r.2.1, .int .i64 r.2.2] s) → FN Go.Proofs.Tryz.prog 22 [.agg [.bool true, .sl false 6 f_0.Objects.length (flat f_0.Objects), .sl false 1 f_0.Bytes.B.length (flat f_0.Bytes.B), .sl false 1 f_0.Bytes.Known.length (flat f_0.Bytes.Known), .sl false 1 f_0.Table.Places.length (flat f_0.Table.Places), .int .i64 f_0.Table.Root]] s Q := by
  intro h
  refine FN.of (draw_ok mix) is_ref20_Pages rfl (Nat.le_of_ble_eq_true rfl) ?_
  revert h
  rw [ir_ref20_Pages, res_ref20_Pages, ref20_Pages]
  repeat' (first
    | with_reducible exact tt_to
    | with_reducible refine and_to ?_ ?_
    | with_reducible refine im_to ?_
    | with_reducible refine call_to (fun _ (h : ref20_top f_0 = some _) => ref20_top_fe h) (fun r1 => ?_)
    | with_reducible refine call_to_q (fun _ (h : ref20_top f_0 = some _) => ref20_top_fe h) (fun _ => rfl) (fun r1 => ?_)
    | with_reducible refine call_to (fun _ (h : ref20_top f_0 = some _) => (by refine FE_cast ?_ (ref20_top_fe h); simp -implicitDefEqProofs only [go_sem, start, startE, resVs, resV, resC, allV, retK, Nat.reduceBEq, Nat.reduceAdd, Nat.reduceMul, Nat.reduceLeDiff, Nat.reduceEqDiff, Nat.reduceBNe, Nat.ble_eq, UInt8.reduceToNat])) (fun r1 => ?_)
    | with_reducible refine call_to_q (fun _ (h : ref20_top f_0 = some _) => (by refine FE_cast ?_ (ref20_top_fe h); simp -implicitDefEqProofs only [go_sem, start, startE, resVs, resV, resC, allV, retK, Nat.reduceBEq, Nat.reduceAdd, Nat.reduceMul, Nat.reduceLeDiff, Nat.reduceEqDiff, Nat.reduceBNe, Nat.ble_eq, UInt8.reduceToNat])) (fun _ => rfl) (fun r1 => ?_)
    | with_reducible refine call_to (fun _ (h : ref20_Node r1.2.1 = some _) => ref20_Node_fe h) (fun r2 => ?_)
    | with_reducible refine call_to_q (fun _ (h : ref20_Node r1.2.1 = some _) => ref20_Node_fe h) (fun _ => rfl) (fun r2 => ?_)
    | with_reducible refine call_to (fun _ (h : ref20_Node r1.2.1 = some _) => (by refine FE_cast ?_ (ref20_Node_fe h); simp -implicitDefEqProofs only [go_sem, start, startE, resVs, resV, resC, allV, retK, Nat.reduceBEq, Nat.reduceAdd, Nat.reduceMul, Nat.reduceLeDiff, Nat.reduceEqDiff, Nat.reduceBNe, Nat.ble_eq, UInt8.reduceToNat])) (fun r2 => ?_)
    | with_reducible refine call_to_q (fun _ (h : ref20_Node r1.2.1 = some _) => (by refine FE_cast ?_ (ref20_Node_fe h); simp -implicitDefEqProofs only [go_sem, start, startE, resVs, resV, resC, allV, retK, Nat.reduceBEq, Nat.reduceAdd, Nat.reduceMul, Nat.reduceLeDiff, Nat.reduceEqDiff, Nat.reduceBNe, Nat.ble_eq, UInt8.reduceToNat])) (fun _ => rfl) (fun r2 => ?_)
    | simp -implicitDefEqProofs only [go_sem, start, startE, resVs, resV, resC, allV, retK, Nat.reduceBEq, Nat.reduceAdd, Nat.reduceMul, Nat.reduceLeDiff, Nat.reduceEqDiff, Nat.reduceBNe, Nat.ble_eq, UInt8.reduceToNat])
theorem ref20_Pages_fe {f_0} {s : Store} {r : Int × Int × Int}  (h : ref20_Pages f_0 = some r) : FE Go.Proofs.Tryz.prog 22 [.agg [.bool true, .sl false 6 f_0.Objects.length (flat f_0.Objects), .sl false 1 f_0.Bytes.B.length (flat f_0.Bytes.B), .sl false 1 f_0.Bytes.Known.length (flat f_0.Bytes.Known), .sl false 1 f_0.Table.Places.length (flat f_0.Table.Places), .int .i64 f_0.Table.Root]] s [.int .i64 r.1, .int .i64 r.2.1, .int .i64 r.2.2] s := ref20_Pages_fn   ⟨r, h, rfl, rfl⟩
/-- catchword/catchwordref20.Leaves -/
def ref20_Leaves (f_0 : ref19_File) : Option ((List ref20_Leaf) × Int × Int) :=
  bnd (ref20_Pages f_0) fun r1 =>
  if r1.2.2 != 0 then
    some (([] : List ref20_Leaf), r1.2.1, r1.2.2)
  else
    jnS (
      bndS (
        iter (fun ((out6, p7) : (List ref20_Leaf) × Int) =>
          if decide (p7 < r1.1) then
            bnd (ref20_Find f_0 p7) fun r12 =>
            if r12.2.2 != 0 then
              some (.inr (.inr (([] : List ref20_Leaf), r12.2.1, r12.2.2)))
            else
              need ((out6.length + [r12.1].length) * 88 ≤ room) <|
              some (.inl (out6 ++ [r12.1], w64 (p7 + 1)))
          else
            some (.inr (.inl out6))) (([] : List ref20_Leaf), 0)) (fun (out8 : (List ref20_Leaf)) =>
        some (.inl out8))
      (fun ((t9, t10, t11) : (List ref20_Leaf) × Int × Int) => some (.inr (t9, t10, t11)))) (fun (out2 : (List ref20_Leaf)) =>
      some (out2, 0, 0))
    (fun ((t3, t4, t5) : (List ref20_Leaf) × Int × Int) => some (t3, t4, t5))
def ir_ref20_Leaves : IC :=
 (.seq (.reg none [i1 1 (.boxL 6 (.t 0)),
 i1 2 (.mov true (.c (.sl true 6 0 []))),
 i1 3 (.mov false (.c (.int .i64 0))),
 i1 4 (.mov false (.c (.int .i64 0)))] [1])
 (.seq (.reg none [i1 14 (.load 6 true (.t 1)),
 i1 15 (.call 22 [(.t 14)]),
 i1 13 (.movT (.t 15)),
 i1 16 (.extract (.t 13) 0),
 i1 17 (.extract (.t 13) 1),
 i1 18 (.extract (.t 13) 2),
 mv 5 16,
 mv 6 17,
 mv 7 18] [1, 5, 6, 7])
 (.seq (.seq (.reg none [mv 19 7,
 i1 20 (.bin .neq (.t 19) (.c (.int .i64 0)))] [1, 5, 6, 7, 20])
 (.cond (.t 20) (.seq (.reg none [mv 21 6,
 mv 22 7,
 i1 2 (.mov true (.c (.sl true 6 0 []))),
 mv 3 21,
 mv 4 22] [2, 3, 4])
 .ret)
 .skip))
 (.seq (.reg none [i1 8 (.mov true (.c (.sl true 6 0 [])))] [1, 5, 8])
 (.join [(8, false)] (.seq (.reg none [i1 9 (.mov false (.c (.int .i64 0)))] [1, 5, 8, 9])
 (.block 0 (.loop [(1, false), (5, false), (8, false), (9, false)] (.seq (.seq (.reg none [mv 23 9,
 mv 24 5,
 i1 25 (.bin .lss (.t 23) (.t 24))] [1, 5, 8, 9, 25])
 (.cond (.t 25) .skip
 (.exit 0)))
 (.seq (.block 1 (.seq (.reg none [i1 29 (.load 6 true (.t 1)),
 mv 30 9,
 i1 31 (.call 18 [(.t 29), (.t 30)]),
 i1 28 (.movT (.t 31)),
 i1 32 (.extract (.t 28) 0),
 i1 33 (.extract (.t 28) 1),
 i1 34 (.extract (.t 28) 2),
 i1 10 (.allocL [.int .i64 0, .sl true 1 0 [], .int .i64 0, .int .i64 0, .str [], .sl true 4 0 []]),
 i0 (.store 6 (.t 10) (.t 32)),
 mv 11 33,
 mv 12 34] [1, 5, 8, 9, 10, 11, 12])
 (.seq (.seq (.reg none [mv 35 12,
 i1 36 (.bin .neq (.t 35) (.c (.int .i64 0)))] [1, 5, 8, 9, 10, 11, 12, 36])
 (.cond (.t 36) (.seq (.reg none [mv 37 11,
 mv 38 12,
 i1 2 (.mov true (.c (.sl true 6 0 []))),
 mv 3 37,
 mv 4 38] [2, 3, 4])
 .ret)
 .skip))
 (.reg none [mt 39 8,
 i1 40 (.load 6 true (.t 10)),
 i1 41 (.buildSl 6 1 [.int .i64 0, .sl true 1 0 [], .int .i64 0, .int .i64 0, .str [], .sl true 4 0 []] [(0, 6, (.t 40))]),
 i1 42 (.append 6 88 (.t 39) (.t 41)),
 mt 8 42] [1, 5, 8, 9]))))
 (.reg none [mv 26 9,
 i1 27 (.bin .add (.t 26) (.c (.int .i64 1))),
 mv 9 27] [1, 5, 8, 9]))))))
 (.seq (.reg none [mt 43 8,
 mt 2 43,
 i1 3 (.mov false (.c (.int .i64 0))),
 i1 4 (.mov false (.c (.int .i64 0)))] [2, 3, 4])
 .ret))))))
def res_ref20_Leaves : List IRes := [⟨2, true, none⟩, ⟨3, true, none⟩, ⟨4, true, none⟩]
theorem is_ref20_Leaves : fnIs Go.Proofs.Tryz.prog 24 44 res_ref20_Leaves ir_ref20_Leaves = true := by kernel_rfl
theorem ref20_Leaves_fn {f_0} {s : Store} {Q : List AV → Store → Prop}  : ok (ref20_Leaves f_0) (fun r => Q [.sl true 6 r.1.length (flat r.1), .int .i64 r.2.1, .int .i64 r.2.2] s) → FN Go.Proofs.Tryz.prog 24 [.agg [.bool true, .sl false 6 f_0.Objects.length (flat f_0.Objects), .sl false 1 f_0.Bytes.B.length (flat f_0.Bytes.B), .sl false 1 f_0.Bytes.Known.length (flat f_0.Bytes.Known), .sl false 1 f_0.Table.Places.length (flat f_0.Table.Places), .int .i64 f_0.Table.Root]] s Q := by
  intro h
  refine FN.of (draw_ok mix) is_ref20_Leaves rfl (Nat.le_of_ble_eq_true rfl) ?_
  revert h
  rw [ir_ref20_Leaves, res_ref20_Leaves, ref20_Leaves]
  repeat' (first
    | with_reducible exact tt_to
    | with_reducible refine and_to ?_ ?_
    | with_reducible refine im_to ?_
    | with_reducible refine call_to (fun _ (h : ref20_Pages f_0 = some _) => ref20_Pages_fe h) (fun r1 => ?_)
    | with_reducible refine call_to_q (fun _ (h : ref20_Pages f_0 = some _) => ref20_Pages_fe h) (fun _ => rfl) (fun r1 => ?_)
    | with_reducible refine call_to (fun _ (h : ref20_Pages f_0 = some _) => (by refine FE_cast ?_ (ref20_Pages_fe h); simp -implicitDefEqProofs only [go_sem, start, startE, resVs, resV, resC, allV, retK, Nat.reduceBEq, Nat.reduceAdd, Nat.reduceMul, Nat.reduceLeDiff, Nat.reduceEqDiff, Nat.reduceBNe, Nat.ble_eq, UInt8.reduceToNat])) (fun r1 => ?_)
    | with_reducible refine call_to_q (fun _ (h : ref20_Pages f_0 = some _) => (by refine FE_cast ?_ (ref20_Pages_fe h); simp -implicitDefEqProofs only [go_sem, start, startE, resVs, resV, resC, allV, retK, Nat.reduceBEq, Nat.reduceAdd, Nat.reduceMul, Nat.reduceLeDiff, Nat.reduceEqDiff, Nat.reduceBNe, Nat.ble_eq, UInt8.reduceToNat])) (fun _ => rfl) (fun r1 => ?_)
    | with_reducible refine call_to (fun _ (h : ref20_Find f_0 p7 = some _) => ref20_Find_fe h) (fun r12 => ?_)
    | with_reducible refine call_to_q (fun _ (h : ref20_Find f_0 p7 = some _) => ref20_Find_fe h) (fun _ => rfl) (fun r12 => ?_)
    | with_reducible refine call_to (fun _ (h : ref20_Find f_0 p7 = some _) => (by refine FE_cast ?_ (ref20_Find_fe h); simp -implicitDefEqProofs only [go_sem, start, startE, resVs, resV, resC, allV, retK, Nat.reduceBEq, Nat.reduceAdd, Nat.reduceMul, Nat.reduceLeDiff, Nat.reduceEqDiff, Nat.reduceBNe, Nat.ble_eq, UInt8.reduceToNat])) (fun r12 => ?_)
    | with_reducible refine call_to_q (fun _ (h : ref20_Find f_0 p7 = some _) => (by refine FE_cast ?_ (ref20_Find_fe h); simp -implicitDefEqProofs only [go_sem, start, startE, resVs, resV, resC, allV, retK, Nat.reduceBEq, Nat.reduceAdd, Nat.reduceMul, Nat.reduceLeDiff, Nat.reduceEqDiff, Nat.reduceBNe, Nat.ble_eq, UInt8.reduceToNat])) (fun _ => rfl) (fun r12 => ?_)
    | ((with_reducible refine iter_to (fun ((out6, p7) : (List ref20_Leaf) × Int) => ⟨[(1, .loc [.bool true, .sl false 6 f_0.Objects.length (flat f_0.Objects), .sl false 1 f_0.Bytes.B.length (flat f_0.Bytes.B), .sl false 1 f_0.Bytes.Known.length (flat f_0.Bytes.Known), .sl false 1 f_0.Table.Places.length (flat f_0.Table.Places), .int .i64 f_0.Table.Root]), (5, .int .i64 r1.1), (8, .sl true 6 out6.length (flat out6)), (9, .int .i64 p7)], [], s⟩) ?_ ?_); (first | exact rfl | simp -implicitDefEqProofs only [go_sem, start, startE, resVs, resV, resC, allV, retK, Nat.reduceBEq, Nat.reduceAdd, Nat.reduceMul, Nat.reduceLeDiff, Nat.reduceEqDiff, Nat.reduceBNe, Nat.ble_eq, UInt8.reduceToNat]); rintro J ⟨out6, p7⟩)
    | ((with_reducible refine join_toS (fun (out2 : (List ref20_Leaf)) => ⟨[(8, .sl true 6 out2.length (flat out2))], [], s⟩) (fun J => ?_) ?_); rotate_left; rintro out2)
    | simp -implicitDefEqProofs only [go_sem, start, startE, resVs, resV, resC, allV, retK, Nat.reduceBEq, Nat.reduceAdd, Nat.reduceMul, Nat.reduceLeDiff, Nat.reduceEqDiff, Nat.reduceBNe, Nat.ble_eq, UInt8.reduceToNat])
theorem ref20_Leaves_fe {f_0} {s : Store} {r : (List ref20_Leaf) × Int × Int}  (h : ref20_Leaves f_0 = some r) : FE Go.Proofs.Tryz.prog 24 [.agg [.bool true, .sl false 6 f_0.Objects.length (flat f_0.Objects), .sl false 1 f_0.Bytes.B.length (flat f_0.Bytes.B), .sl false 1 f_0.Bytes.Known.length (flat f_0.Bytes.Known), .sl false 1 f_0.Table.Places.length (flat f_0.Table.Places), .int .i64 f_0.Table.Root]] s [.sl true 6 r.1.length (flat r.1), .int .i64 r.2.1, .int .i64 r.2.2] s := ref20_Leaves_fn   ⟨r, h, rfl, rfl⟩
/-- catchword/catchwordlaw20.TreeAll -/
def law20_TreeAll (d_0 : api_Doc) : Option (Bool) :=
  bnd (ref19_Few d_0.Objects 80) fun r1 =>
  if !r1 then
    bnd (law20_works) fun r2 =>
    some r2
  else
    bnd (file_Of d_0) fun r3 =>
    bnd (tree_Pages r3) fun r4 =>
    bnd (ref19_Of d_0) fun r5 =>
    bnd (ref20_Pages r5) fun r6 =>
    if ((r4.1 != r6.1) || (r4.2.1 != 0)) || (r4.2.2 != r6.2.2) then
      some false
    else
      bnd (file_Of d_0) fun r7 =>
      bnd (tree_Leaves r7) fun r8 =>
      bnd (ref19_Of d_0) fun r9 =>
      bnd (ref20_Leaves r9) fun r10 =>
      if (((r8.1.length : Int) != (r10.1.length : Int)) || (r8.2.1 != 0)) || (r8.2.2 != r10.2.2) then
        some false
      else
        jnS (
          bndS (
            iter (fun (i16 : Int) =>
              if decide (i16 < (r8.1.length : Int)) then
                need (0 ≤ i16 ∧ i16 < r8.1.length) <|
                bnd (law20_of (ix r8.1 i16)) fun r22 =>
                need (0 ≤ i16 ∧ i16 < r10.1.length) <|
                bnd (ref20_Same r22 (ix r10.1 i16)) fun r23 =>
                if !r23 then
                  some (.inr (.inr false))
                else
                  some (.inl (w64 (i16 + 1)))
              else
                some (.inr (.inl ()))) 0) (fun (_ : Unit) =>
            some (.inl ()))
          (fun (t19 : Bool) => some (.inr t19))) (fun (_ : Unit) =>
          bnd (law20_works) fun r24 =>
          some r24)
        (fun (t13 : Bool) => some t13)
def ir_law20_TreeAll : IC :=
 (.seq (.reg none [i1 1 (.boxL 2 (.t 0)),
 i1 2 (.mov false (.c (.bool false)))] [1])
 (.seq (.seq (.reg none [i1 16 (.fieldAddr 0 (.t 1)),
 i1 17 (.load 1 false (.t 16)),
 i1 18 (.call 6 [(.t 17), (.c (.int .i64 80))]),
 i1 19 (.un .not (.t 18))] [1, 19])
 (.cond (.t 19) (.seq (.reg none [i1 20 (.call 16 []),
 mv 2 20] [2])
 .ret)
 .skip))
 (.seq (.reg none [i1 22 (.load 2 true (.t 1)),
 i1 23 (.call 10 [(.t 22)]),
 i1 24 (.call 21 [(.t 23)]),
 i1 21 (.movT (.t 24)),
 i1 25 (.extract (.t 21) 0),
 i1 26 (.extract (.t 21) 1),
 i1 27 (.extract (.t 21) 2),
 mv 3 25,
 mv 4 26,
 mv 5 27] [1, 3, 4, 5])
 (.seq (.reg none [i1 29 (.load 2 true (.t 1)),
 i1 30 (.call 13 [(.t 29)]),
 i1 31 (.call 22 [(.t 30)]),
 i1 28 (.movT (.t 31)),
 i1 32 (.extract (.t 28) 0),
 i1 33 (.extract (.t 28) 1),
 i1 34 (.extract (.t 28) 2),
 mv 6 32,
 mv 7 33,
 mv 8 34] [1, 3, 4, 5, 6, 8])
 (.seq (.seq (.reg none [mv 35 3,
 mv 36 6,
 i1 37 (.bin .neq (.t 35) (.t 36)),
 mv 38 37,
 mvg 39 4 38 false,
 i1g 40 38 false (.bin .neq (.t 39) (.c (.int .i64 0))),
 i1 41 (.pick (.t 38) (.c (.bool true)) (.t 40)),
 mv 42 41,
 mvg 43 5 42 false,
 mvg 44 8 42 false,
 i1g 45 42 false (.bin .neq (.t 43) (.t 44)),
 i1 46 (.pick (.t 42) (.c (.bool true)) (.t 45))] [1, 46])
 (.cond (.t 46) (.seq (.reg none [i1 2 (.mov false (.c (.bool false)))] [2])
 .ret)
 .skip))
 (.seq (.reg none [i1 48 (.load 2 true (.t 1)),
 i1 49 (.call 10 [(.t 48)]),
 i1 50 (.call 23 [(.t 49)]),
 i1 47 (.movT (.t 50)),
 i1 51 (.extract (.t 47) 0),
 i1 52 (.extract (.t 47) 1),
 i1 53 (.extract (.t 47) 2),
 mt 9 51,
 mv 10 52,
 mv 11 53] [1, 9, 10, 11])
 (.seq (.reg none [i1 55 (.load 2 true (.t 1)),
 i1 56 (.call 13 [(.t 55)]),
 i1 57 (.call 24 [(.t 56)]),
 i1 54 (.movT (.t 57)),
 i1 58 (.extract (.t 54) 0),
 i1 59 (.extract (.t 54) 1),
 i1 60 (.extract (.t 54) 2),
 mt 12 58,
 mv 13 59,
 mv 14 60] [9, 10, 11, 12, 14])
 (.seq (.seq (.reg none [mv 61 9,
 i1 62 (.len 0 (.t 61)),
 mv 63 12,
 i1 64 (.len 0 (.t 63)),
 i1 65 (.bin .neq (.t 62) (.t 64)),
 mv 66 65,
 mvg 67 10 66 false,
 i1g 68 66 false (.bin .neq (.t 67) (.c (.int .i64 0))),
 i1 69 (.pick (.t 66) (.c (.bool true)) (.t 68)),
 mv 70 69,
 mvg 71 11 70 false,
 mvg 72 14 70 false,
 i1g 73 70 false (.bin .neq (.t 71) (.t 72)),
 i1 74 (.pick (.t 70) (.c (.bool true)) (.t 73))] [9, 12, 74])
 (.cond (.t 74) (.seq (.reg none [i1 2 (.mov false (.c (.bool false)))] [2])
 .ret)
 .skip))
 (.join [] (.seq (.reg none [i1 15 (.mov false (.c (.int .i64 0)))] [9, 12, 15])
 (.block 0 (.loop [(9, true), (12, true), (15, false)] (.seq (.seq (.reg none [mv 75 15,
 mv 76 9,
 i1 77 (.len 0 (.t 76)),
 i1 78 (.bin .lss (.t 75) (.t 77))] [9, 12, 15, 78])
 (.cond (.t 78) .skip
 (.exit 0)))
 (.seq (.block 1 (.seq (.reg (some 11) [mv 81 9,
 mv 82 15,
 i1 83 (.indexAddr [.int .i64 0, .sl false 1 0 [], .int .i64 0, .int .i64 0, .str [], .sl false 4 0 []] (.t 81) (.t 82)),
 i1 84 (.load 6 true (.t 83)),
 i1 85 (.call 20 [(.t 84)]),
 mv 86 12,
 mv 87 15,
 i1 88 (.indexAddr [.int .i64 0, .sl false 1 0 [], .int .i64 0, .int .i64 0, .str [], .sl false 4 0 []] (.t 86) (.t 87)),
 i1 89 (.load 6 true (.t 88)),
 i1 90 (.call 19 [(.t 85), (.t 89)]),
 i1 91 (.un .not (.t 90))] [9, 12, 15, 91])
 (.cond (.t 91) (.seq (.reg none [i1 2 (.mov false (.c (.bool false)))] [2])
 .ret)
 .skip)))
 (.reg none [mv 79 15,
 i1 80 (.bin .add (.t 79) (.c (.int .i64 1))),
 mv 15 80] [9, 12, 15]))))))
 (.seq (.reg none [i1 92 (.call 16 []),
 mv 2 92] [2])
 .ret))))))))))
def res_law20_TreeAll : List IRes := [⟨2, true, none⟩]
theorem is_law20_TreeAll : fnIs Go.Proofs.Tryz.prog 5 93 res_law20_TreeAll ir_law20_TreeAll = true := by kernel_rfl
theorem law20_TreeAll_fn {d_0} {s : Store} {Q : List AV → Store → Prop}  : ok (law20_TreeAll d_0) (fun r => Q [.bool r] s) → FN Go.Proofs.Tryz.prog 5 [.agg [.sl false 6 d_0.Objects.length (flat d_0.Objects), .int .i64 d_0.Root]] s Q := by
  intro h
  refine FN.forget ?_
  refine FN.of (draw_ok mix) is_law20_TreeAll rfl (Nat.le_of_ble_eq_true rfl) ?_
  revert h
  rw [ir_law20_TreeAll, res_law20_TreeAll, law20_TreeAll]
  repeat' (first
    | with_reducible exact tt_to
    | with_reducible refine and_to ?_ ?_
    | with_reducible refine im_to ?_
    | with_reducible refine call_to (fun _ (h : ref19_Few d_0.Objects 80 = some _) => ref19_Few_fe h) (fun r1 => ?_)
    | with_reducible refine call_to_q (fun _ (h : ref19_Few d_0.Objects 80 = some _) => ref19_Few_fe h) (fun _ => rfl) (fun r1 => ?_)
    | with_reducible refine call_to (fun _ (h : ref19_Few d_0.Objects 80 = some _) => (by refine FE_cast ?_ (ref19_Few_fe h); simp -implicitDefEqProofs only [go_sem, start, startE, resVs, resV, resC, allV, retK, Nat.reduceBEq, Nat.reduceAdd, Nat.reduceMul, Nat.reduceLeDiff, Nat.reduceEqDiff, Nat.reduceBNe, Nat.ble_eq, UInt8.reduceToNat])) (fun r1 => ?_)
    | with_reducible refine call_to_q (fun _ (h : ref19_Few d_0.Objects 80 = some _) => (by refine FE_cast ?_ (ref19_Few_fe h); simp -implicitDefEqProofs only [go_sem, start, startE, resVs, resV, resC, allV, retK, Nat.reduceBEq, Nat.reduceAdd, Nat.reduceMul, Nat.reduceLeDiff, Nat.reduceEqDiff, Nat.reduceBNe, Nat.ble_eq, UInt8.reduceToNat])) (fun _ => rfl) (fun r1 => ?_)
    | ((fail_if_success (have _x := r2)); with_reducible refine call_to (fun _ (h : law20_works = some _) => law20_works_fe h) (fun r2 => ?_))
    | ((fail_if_success (have _x := r2)); with_reducible refine call_to_q (fun _ (h : law20_works = some _) => law20_works_fe h) (fun _ => rfl) (fun r2 => ?_))
    | ((fail_if_success (have _x := r2)); with_reducible refine call_to (fun _ (h : law20_works = some _) => (by refine FE_cast ?_ (law20_works_fe h); simp -implicitDefEqProofs only [go_sem, start, startE, resVs, resV, resC, allV, retK, Nat.reduceBEq, Nat.reduceAdd, Nat.reduceMul, Nat.reduceLeDiff, Nat.reduceEqDiff, Nat.reduceBNe, Nat.ble_eq, UInt8.reduceToNat])) (fun r2 => ?_))
    | ((fail_if_success (have _x := r2)); with_reducible refine call_to_q (fun _ (h : law20_works = some _) => (by refine FE_cast ?_ (law20_works_fe h); simp -implicitDefEqProofs only [go_sem, start, startE, resVs, resV, resC, allV, retK, Nat.reduceBEq, Nat.reduceAdd, Nat.reduceMul, Nat.reduceLeDiff, Nat.reduceEqDiff, Nat.reduceBNe, Nat.ble_eq, UInt8.reduceToNat])) (fun _ => rfl) (fun r2 => ?_))
    | ((fail_if_success (have _x := r3)); with_reducible refine fun hh => file_Of_fn (ok_mono (show ok (file_Of d_0) _ from hh) fun r3 => ?_))
    | ((have _x := sN4; clear _x); with_reducible refine call_to (fun _ (h : tree_Pages r3 = some _) => tree_Pages_fe (B0 := N2) (B0_get_ := N1) (by simp -implicitDefEqProofs only [go_sem, start, startE, resVs, resV, resC, allV, retK, Nat.reduceBEq, Nat.reduceAdd, Nat.reduceMul, Nat.reduceLeDiff, Nat.reduceEqDiff, Nat.reduceBNe, Nat.ble_eq, UInt8.reduceToNat, set_ne nN2N1, set_ne nN2N1.symm, set_comm nN2N1.symm, set_ne nN3N1, set_ne nN3N1.symm, set_comm nN3N1.symm, set_ne nN3N2, set_ne nN3N2.symm, set_comm nN3N2.symm, set_ne nN4N1, set_ne nN4N1.symm, set_comm nN4N1.symm, set_ne nN4N2, set_ne nN4N2.symm, set_comm nN4N2.symm, set_ne nN4N3, set_ne nN4N3.symm, set_comm nN4N3.symm]) (by simp -implicitDefEqProofs only [go_sem, start, startE, resVs, resV, resC, allV, retK, Nat.reduceBEq, Nat.reduceAdd, Nat.reduceMul, Nat.reduceLeDiff, Nat.reduceEqDiff, Nat.reduceBNe, Nat.ble_eq, UInt8.reduceToNat, set_ne nN2N1, set_ne nN2N1.symm, set_comm nN2N1.symm, set_ne nN3N1, set_ne nN3N1.symm, set_comm nN3N1.symm, set_ne nN3N2, set_ne nN3N2.symm, set_comm nN3N2.symm, set_ne nN4N1, set_ne nN4N1.symm, set_comm nN4N1.symm, set_ne nN4N2, set_ne nN4N2.symm, set_comm nN4N2.symm, set_ne nN4N3, set_ne nN4N3.symm, set_comm nN4N3.symm]) nN2N1 h) (fun r4 => ?_))
    | ((have _x := sN4; clear _x); with_reducible refine call_to_q (fun _ (h : tree_Pages r3 = some _) => tree_Pages_fe (B0 := N2) (B0_get_ := N1) (by simp -implicitDefEqProofs only [go_sem, start, startE, resVs, resV, resC, allV, retK, Nat.reduceBEq, Nat.reduceAdd, Nat.reduceMul, Nat.reduceLeDiff, Nat.reduceEqDiff, Nat.reduceBNe, Nat.ble_eq, UInt8.reduceToNat, set_ne nN2N1, set_ne nN2N1.symm, set_comm nN2N1.symm, set_ne nN3N1, set_ne nN3N1.symm, set_comm nN3N1.symm, set_ne nN3N2, set_ne nN3N2.symm, set_comm nN3N2.symm, set_ne nN4N1, set_ne nN4N1.symm, set_comm nN4N1.symm, set_ne nN4N2, set_ne nN4N2.symm, set_comm nN4N2.symm, set_ne nN4N3, set_ne nN4N3.symm, set_comm nN4N3.symm]) (by simp -implicitDefEqProofs only [go_sem, start, startE, resVs, resV, resC, allV, retK, Nat.reduceBEq, Nat.reduceAdd, Nat.reduceMul, Nat.reduceLeDiff, Nat.reduceEqDiff, Nat.reduceBNe, Nat.ble_eq, UInt8.reduceToNat, set_ne nN2N1, set_ne nN2N1.symm, set_comm nN2N1.symm, set_ne nN3N1, set_ne nN3N1.symm, set_comm nN3N1.symm, set_ne nN3N2, set_ne nN3N2.symm, set_comm nN3N2.symm, set_ne nN4N1, set_ne nN4N1.symm, set_comm nN4N1.symm, set_ne nN4N2, set_ne nN4N2.symm, set_comm nN4N2.symm, set_ne nN4N3, set_ne nN4N3.symm, set_comm nN4N3.symm]) nN2N1 h) (fun _ => rfl) (fun r4 => ?_))
    | ((have _x := sN3; clear _x); with_reducible refine call_to (fun _ (h : tree_Pages r3 = some _) => tree_Pages_fe (B0 := N2) (B0_get_ := N1) (by simp -implicitDefEqProofs only [go_sem, start, startE, resVs, resV, resC, allV, retK, Nat.reduceBEq, Nat.reduceAdd, Nat.reduceMul, Nat.reduceLeDiff, Nat.reduceEqDiff, Nat.reduceBNe, Nat.ble_eq, UInt8.reduceToNat, set_ne nN2N1, set_ne nN2N1.symm, set_comm nN2N1.symm, set_ne nN3N1, set_ne nN3N1.symm, set_comm nN3N1.symm, set_ne nN3N2, set_ne nN3N2.symm, set_comm nN3N2.symm]) (by simp -implicitDefEqProofs only [go_sem, start, startE, resVs, resV, resC, allV, retK, Nat.reduceBEq, Nat.reduceAdd, Nat.reduceMul, Nat.reduceLeDiff, Nat.reduceEqDiff, Nat.reduceBNe, Nat.ble_eq, UInt8.reduceToNat, set_ne nN2N1, set_ne nN2N1.symm, set_comm nN2N1.symm, set_ne nN3N1, set_ne nN3N1.symm, set_comm nN3N1.symm, set_ne nN3N2, set_ne nN3N2.symm, set_comm nN3N2.symm]) nN2N1 h) (fun r4 => ?_))
    | ((have _x := sN3; clear _x); with_reducible refine call_to_q (fun _ (h : tree_Pages r3 = some _) => tree_Pages_fe (B0 := N2) (B0_get_ := N1) (by simp -implicitDefEqProofs only [go_sem, start, startE, resVs, resV, resC, allV, retK, Nat.reduceBEq, Nat.reduceAdd, Nat.reduceMul, Nat.reduceLeDiff, Nat.reduceEqDiff, Nat.reduceBNe, Nat.ble_eq, UInt8.reduceToNat, set_ne nN2N1, set_ne nN2N1.symm, set_comm nN2N1.symm, set_ne nN3N1, set_ne nN3N1.symm, set_comm nN3N1.symm, set_ne nN3N2, set_ne nN3N2.symm, set_comm nN3N2.symm]) (by simp -implicitDefEqProofs only [go_sem, start, startE, resVs, resV, resC, allV, retK, Nat.reduceBEq, Nat.reduceAdd, Nat.reduceMul, Nat.reduceLeDiff, Nat.reduceEqDiff, Nat.reduceBNe, Nat.ble_eq, UInt8.reduceToNat, set_ne nN2N1, set_ne nN2N1.symm, set_comm nN2N1.symm, set_ne nN3N1, set_ne nN3N1.symm, set_comm nN3N1.symm, set_ne nN3N2, set_ne nN3N2.symm, set_comm nN3N2.symm]) nN2N1 h) (fun _ => rfl) (fun r4 => ?_))
    | with_reducible refine call_to (fun _ (h : tree_Pages r3 = some _) => tree_Pages_fe (B0 := N2) (B0_get_ := N1) (by simp -implicitDefEqProofs only [go_sem, start, startE, resVs, resV, resC, allV, retK, Nat.reduceBEq, Nat.reduceAdd, Nat.reduceMul, Nat.reduceLeDiff, Nat.reduceEqDiff, Nat.reduceBNe, Nat.ble_eq, UInt8.reduceToNat, set_ne nN2N1, set_ne nN2N1.symm, set_comm nN2N1.symm]) (by simp -implicitDefEqProofs only [go_sem, start, startE, resVs, resV, resC, allV, retK, Nat.reduceBEq, Nat.reduceAdd, Nat.reduceMul, Nat.reduceLeDiff, Nat.reduceEqDiff, Nat.reduceBNe, Nat.ble_eq, UInt8.reduceToNat, set_ne nN2N1, set_ne nN2N1.symm, set_comm nN2N1.symm]) nN2N1 h) (fun r4 => ?_)
    | with_reducible refine call_to_q (fun _ (h : tree_Pages r3 = some _) => tree_Pages_fe (B0 := N2) (B0_get_ := N1) (by simp -implicitDefEqProofs only [go_sem, start, startE, resVs, resV, resC, allV, retK, Nat.reduceBEq, Nat.reduceAdd, Nat.reduceMul, Nat.reduceLeDiff, Nat.reduceEqDiff, Nat.reduceBNe, Nat.ble_eq, UInt8.reduceToNat, set_ne nN2N1, set_ne nN2N1.symm, set_comm nN2N1.symm]) (by simp -implicitDefEqProofs only [go_sem, start, startE, resVs, resV, resC, allV, retK, Nat.reduceBEq, Nat.reduceAdd, Nat.reduceMul, Nat.reduceLeDiff, Nat.reduceEqDiff, Nat.reduceBNe, Nat.ble_eq, UInt8.reduceToNat, set_ne nN2N1, set_ne nN2N1.symm, set_comm nN2N1.symm]) nN2N1 h) (fun _ => rfl) (fun r4 => ?_)
    | ((fail_if_success (have _x := r5)); with_reducible refine call_to (fun _ (h : ref19_Of d_0 = some _) => ref19_Of_fe h) (fun r5 => ?_))
    | ((fail_if_success (have _x := r5)); with_reducible refine call_to_q (fun _ (h : ref19_Of d_0 = some _) => ref19_Of_fe h) (fun _ => rfl) (fun r5 => ?_))
    | ((fail_if_success (have _x := r5)); with_reducible refine call_to (fun _ (h : ref19_Of d_0 = some _) => (by refine FE_cast ?_ (ref19_Of_fe h); simp -implicitDefEqProofs only [go_sem, start, startE, resVs, resV, resC, allV, retK, Nat.reduceBEq, Nat.reduceAdd, Nat.reduceMul, Nat.reduceLeDiff, Nat.reduceEqDiff, Nat.reduceBNe, Nat.ble_eq, UInt8.reduceToNat])) (fun r5 => ?_))
    | ((fail_if_success (have _x := r5)); with_reducible refine call_to_q (fun _ (h : ref19_Of d_0 = some _) => (by refine FE_cast ?_ (ref19_Of_fe h); simp -implicitDefEqProofs only [go_sem, start, startE, resVs, resV, resC, allV, retK, Nat.reduceBEq, Nat.reduceAdd, Nat.reduceMul, Nat.reduceLeDiff, Nat.reduceEqDiff, Nat.reduceBNe, Nat.ble_eq, UInt8.reduceToNat])) (fun _ => rfl) (fun r5 => ?_))
    | with_reducible refine call_to (fun _ (h : ref20_Pages r5 = some _) => ref20_Pages_fe h) (fun r6 => ?_)
    | with_reducible refine call_to_q (fun _ (h : ref20_Pages r5 = some _) => ref20_Pages_fe h) (fun _ => rfl) (fun r6 => ?_)
    | with_reducible refine call_to (fun _ (h : ref20_Pages r5 = some _) => (by refine FE_cast ?_ (ref20_Pages_fe h); simp -implicitDefEqProofs only [go_sem, start, startE, resVs, resV, resC, allV, retK, Nat.reduceBEq, Nat.reduceAdd, Nat.reduceMul, Nat.reduceLeDiff, Nat.reduceEqDiff, Nat.reduceBNe, Nat.ble_eq, UInt8.reduceToNat])) (fun r6 => ?_)
    | with_reducible refine call_to_q (fun _ (h : ref20_Pages r5 = some _) => (by refine FE_cast ?_ (ref20_Pages_fe h); simp -implicitDefEqProofs only [go_sem, start, startE, resVs, resV, resC, allV, retK, Nat.reduceBEq, Nat.reduceAdd, Nat.reduceMul, Nat.reduceLeDiff, Nat.reduceEqDiff, Nat.reduceBNe, Nat.ble_eq, UInt8.reduceToNat])) (fun _ => rfl) (fun r6 => ?_)
    | ((fail_if_success (have _x := r7)); with_reducible refine fun hh => file_Of_fn (ok_mono (show ok (file_Of d_0) _ from hh) fun r7 => ?_))
    | ((have _x := sN4; clear _x); with_reducible refine call_to (fun _ (h : tree_Leaves r7 = some _) => tree_Leaves_fe (B0 := N4) (B0_get_ := N3) (by simp -implicitDefEqProofs only [go_sem, start, startE, resVs, resV, resC, allV, retK, Nat.reduceBEq, Nat.reduceAdd, Nat.reduceMul, Nat.reduceLeDiff, Nat.reduceEqDiff, Nat.reduceBNe, Nat.ble_eq, UInt8.reduceToNat, set_ne nN2N1, set_ne nN2N1.symm, set_comm nN2N1.symm, set_ne nN3N1, set_ne nN3N1.symm, set_comm nN3N1.symm, set_ne nN3N2, set_ne nN3N2.symm, set_comm nN3N2.symm, set_ne nN4N1, set_ne nN4N1.symm, set_comm nN4N1.symm, set_ne nN4N2, set_ne nN4N2.symm, set_comm nN4N2.symm, set_ne nN4N3, set_ne nN4N3.symm, set_comm nN4N3.symm]) (by simp -implicitDefEqProofs only [go_sem, start, startE, resVs, resV, resC, allV, retK, Nat.reduceBEq, Nat.reduceAdd, Nat.reduceMul, Nat.reduceLeDiff, Nat.reduceEqDiff, Nat.reduceBNe, Nat.ble_eq, UInt8.reduceToNat, set_ne nN2N1, set_ne nN2N1.symm, set_comm nN2N1.symm, set_ne nN3N1, set_ne nN3N1.symm, set_comm nN3N1.symm, set_ne nN3N2, set_ne nN3N2.symm, set_comm nN3N2.symm, set_ne nN4N1, set_ne nN4N1.symm, set_comm nN4N1.symm, set_ne nN4N2, set_ne nN4N2.symm, set_comm nN4N2.symm, set_ne nN4N3, set_ne nN4N3.symm, set_comm nN4N3.symm]) nN4N3 h) (fun r8 => ?_))
    | ((have _x := sN4; clear _x); with_reducible refine call_to_q (fun _ (h : tree_Leaves r7 = some _) => tree_Leaves_fe (B0 := N4) (B0_get_ := N3) (by simp -implicitDefEqProofs only [go_sem, start, startE, resVs, resV, resC, allV, retK, Nat.reduceBEq, Nat.reduceAdd, Nat.reduceMul, Nat.reduceLeDiff, Nat.reduceEqDiff, Nat.reduceBNe, Nat.ble_eq, UInt8.reduceToNat, set_ne nN2N1, set_ne nN2N1.symm, set_comm nN2N1.symm, set_ne nN3N1, set_ne nN3N1.symm, set_comm nN3N1.symm, set_ne nN3N2, set_ne nN3N2.symm, set_comm nN3N2.symm, set_ne nN4N1, set_ne nN4N1.symm, set_comm nN4N1.symm, set_ne nN4N2, set_ne nN4N2.symm, set_comm nN4N2.symm, set_ne nN4N3, set_ne nN4N3.symm, set_comm nN4N3.symm]) (by simp -implicitDefEqProofs only [go_sem, start, startE, resVs, resV, resC, allV, retK, Nat.reduceBEq, Nat.reduceAdd, Nat.reduceMul, Nat.reduceLeDiff, Nat.reduceEqDiff, Nat.reduceBNe, Nat.ble_eq, UInt8.reduceToNat, set_ne nN2N1, set_ne nN2N1.symm, set_comm nN2N1.symm, set_ne nN3N1, set_ne nN3N1.symm, set_comm nN3N1.symm, set_ne nN3N2, set_ne nN3N2.symm, set_comm nN3N2.symm, set_ne nN4N1, set_ne nN4N1.symm, set_comm nN4N1.symm, set_ne nN4N2, set_ne nN4N2.symm, set_comm nN4N2.symm, set_ne nN4N3, set_ne nN4N3.symm, set_comm nN4N3.symm]) nN4N3 h) (fun _ => rfl) (fun r8 => ?_))
    | ((fail_if_success (have _x := r9)); with_reducible refine call_to (fun _ (h : ref19_Of d_0 = some _) => ref19_Of_fe h) (fun r9 => ?_))
    | ((fail_if_success (have _x := r9)); with_reducible refine call_to_q (fun _ (h : ref19_Of d_0 = some _) => ref19_Of_fe h) (fun _ => rfl) (fun r9 => ?_))
    | ((fail_if_success (have _x := r9)); with_reducible refine call_to (fun _ (h : ref19_Of d_0 = some _) => (by refine FE_cast ?_ (ref19_Of_fe h); simp -implicitDefEqProofs only [go_sem, start, startE, resVs, resV, resC, allV, retK, Nat.reduceBEq, Nat.reduceAdd, Nat.reduceMul, Nat.reduceLeDiff, Nat.reduceEqDiff, Nat.reduceBNe, Nat.ble_eq, UInt8.reduceToNat])) (fun r9 => ?_))
    | ((fail_if_success (have _x := r9)); with_reducible refine call_to_q (fun _ (h : ref19_Of d_0 = some _) => (by refine FE_cast ?_ (ref19_Of_fe h); simp -implicitDefEqProofs only [go_sem, start, startE, resVs, resV, resC, allV, retK, Nat.reduceBEq, Nat.reduceAdd, Nat.reduceMul, Nat.reduceLeDiff, Nat.reduceEqDiff, Nat.reduceBNe, Nat.ble_eq, UInt8.reduceToNat])) (fun _ => rfl) (fun r9 => ?_))
    | with_reducible refine call_to (fun _ (h : ref20_Leaves r9 = some _) => ref20_Leaves_fe h) (fun r10 => ?_)
    | with_reducible refine call_to_q (fun _ (h : ref20_Leaves r9 = some _) => ref20_Leaves_fe h) (fun _ => rfl) (fun r10 => ?_)
    | with_reducible refine call_to (fun _ (h : ref20_Leaves r9 = some _) => (by refine FE_cast ?_ (ref20_Leaves_fe h); simp -implicitDefEqProofs only [go_sem, start, startE, resVs, resV, resC, allV, retK, Nat.reduceBEq, Nat.reduceAdd, Nat.reduceMul, Nat.reduceLeDiff, Nat.reduceEqDiff, Nat.reduceBNe, Nat.ble_eq, UInt8.reduceToNat])) (fun r10 => ?_)
    | with_reducible refine call_to_q (fun _ (h : ref20_Leaves r9 = some _) => (by refine FE_cast ?_ (ref20_Leaves_fe h); simp -implicitDefEqProofs only [go_sem, start, startE, resVs, resV, resC, allV, retK, Nat.reduceBEq, Nat.reduceAdd, Nat.reduceMul, Nat.reduceLeDiff, Nat.reduceEqDiff, Nat.reduceBNe, Nat.ble_eq, UInt8.reduceToNat])) (fun _ => rfl) (fun r10 => ?_)
    | with_reducible refine call_to (fun _ (h : law20_of (ix r8.1 i16) = some _) => law20_of_fe h) (fun r22 => ?_)
    | with_reducible refine call_to_q (fun _ (h : law20_of (ix r8.1 i16) = some _) => law20_of_fe h) (fun _ => rfl) (fun r22 => ?_)
    | with_reducible refine call_to (fun _ (h : law20_of (ix r8.1 i16) = some _) => (by refine FE_cast ?_ (law20_of_fe h); simp -implicitDefEqProofs only [go_sem, start, startE, resVs, resV, resC, allV, retK, Nat.reduceBEq, Nat.reduceAdd, Nat.reduceMul, Nat.reduceLeDiff, Nat.reduceEqDiff, Nat.reduceBNe, Nat.ble_eq, UInt8.reduceToNat])) (fun r22 => ?_)
    | with_reducible refine call_to_q (fun _ (h : law20_of (ix r8.1 i16) = some _) => (by refine FE_cast ?_ (law20_of_fe h); simp -implicitDefEqProofs only [go_sem, start, startE, resVs, resV, resC, allV, retK, Nat.reduceBEq, Nat.reduceAdd, Nat.reduceMul, Nat.reduceLeDiff, Nat.reduceEqDiff, Nat.reduceBNe, Nat.ble_eq, UInt8.reduceToNat])) (fun _ => rfl) (fun r22 => ?_)
    | with_reducible refine call_to (fun _ (h : ref20_Same r22 (ix r10.1 i16) = some _) => ref20_Same_fe h) (fun r23 => ?_)
    | with_reducible refine call_to_q (fun _ (h : ref20_Same r22 (ix r10.1 i16) = some _) => ref20_Same_fe h) (fun _ => rfl) (fun r23 => ?_)
    | with_reducible refine call_to (fun _ (h : ref20_Same r22 (ix r10.1 i16) = some _) => (by refine FE_cast ?_ (ref20_Same_fe h); simp -implicitDefEqProofs only [go_sem, start, startE, resVs, resV, resC, allV, retK, Nat.reduceBEq, Nat.reduceAdd, Nat.reduceMul, Nat.reduceLeDiff, Nat.reduceEqDiff, Nat.reduceBNe, Nat.ble_eq, UInt8.reduceToNat])) (fun r23 => ?_)
    | with_reducible refine call_to_q (fun _ (h : ref20_Same r22 (ix r10.1 i16) = some _) => (by refine FE_cast ?_ (ref20_Same_fe h); simp -implicitDefEqProofs only [go_sem, start, startE, resVs, resV, resC, allV, retK, Nat.reduceBEq, Nat.reduceAdd, Nat.reduceMul, Nat.reduceLeDiff, Nat.reduceEqDiff, Nat.reduceBNe, Nat.ble_eq, UInt8.reduceToNat])) (fun _ => rfl) (fun r23 => ?_)
    | ((fail_if_success (have _x := r24)); with_reducible refine call_to (fun _ (h : law20_works = some _) => law20_works_fe h) (fun r24 => ?_))
    | ((fail_if_success (have _x := r24)); with_reducible refine call_to_q (fun _ (h : law20_works = some _) => law20_works_fe h) (fun _ => rfl) (fun r24 => ?_))
    | ((fail_if_success (have _x := r24)); with_reducible refine call_to (fun _ (h : law20_works = some _) => (by refine FE_cast ?_ (law20_works_fe h); simp -implicitDefEqProofs only [go_sem, start, startE, resVs, resV, resC, allV, retK, Nat.reduceBEq, Nat.reduceAdd, Nat.reduceMul, Nat.reduceLeDiff, Nat.reduceEqDiff, Nat.reduceBNe, Nat.ble_eq, UInt8.reduceToNat])) (fun r24 => ?_))
    | ((fail_if_success (have _x := r24)); with_reducible refine call_to_q (fun _ (h : law20_works = some _) => (by refine FE_cast ?_ (law20_works_fe h); simp -implicitDefEqProofs only [go_sem, start, startE, resVs, resV, resC, allV, retK, Nat.reduceBEq, Nat.reduceAdd, Nat.reduceMul, Nat.reduceLeDiff, Nat.reduceEqDiff, Nat.reduceBNe, Nat.ble_eq, UInt8.reduceToNat])) (fun _ => rfl) (fun r24 => ?_))
    | ((with_reducible refine iter_to (fun (i16 : Int) => ⟨[(9, .sl false 6 r8.1.length (flat r8.1)), (12, .sl false 6 r10.1.length (flat r10.1)), (15, .int .i64 i16)], [], ((((s.set N1 (.cells [.sl false 6 r3.get_.Objects.length (flat r3.get_.Objects), .int .i64 r3.get_.Root])).set N2 (.cells [.int .i64 r3.root_, .int .i64 r3.count_, .fn 34 [] [.ref N1 0]])).set N3 (.cells [.sl false 6 r7.get_.Objects.length (flat r7.get_.Objects), .int .i64 r7.get_.Root])).set N4 (.cells [.int .i64 r7.root_, .int .i64 r7.count_, .fn 34 [] [.ref N3 0]]))⟩) ?_ ?_); (first | exact rfl | simp -implicitDefEqProofs only [go_sem, start, startE, resVs, resV, resC, allV, retK, Nat.reduceBEq, Nat.reduceAdd, Nat.reduceMul, Nat.reduceLeDiff, Nat.reduceEqDiff, Nat.reduceBNe, Nat.ble_eq, UInt8.reduceToNat, set_ne nN2N1, set_ne nN2N1.symm, set_comm nN2N1.symm, set_ne nN3N1, set_ne nN3N1.symm, set_comm nN3N1.symm, set_ne nN3N2, set_ne nN3N2.symm, set_comm nN3N2.symm, set_ne nN4N1, set_ne nN4N1.symm, set_comm nN4N1.symm, set_ne nN4N2, set_ne nN4N2.symm, set_comm nN4N2.symm, set_ne nN4N3, set_ne nN4N3.symm, set_comm nN4N3.symm]); rintro J i16)
    | ((with_reducible refine join_toS (fun (_ : Unit) => ⟨[], [], ((((s.set N1 (.cells [.sl false 6 r3.get_.Objects.length (flat r3.get_.Objects), .int .i64 r3.get_.Root])).set N2 (.cells [.int .i64 r3.root_, .int .i64 r3.count_, .fn 34 [] [.ref N1 0]])).set N3 (.cells [.sl false 6 r7.get_.Objects.length (flat r7.get_.Objects), .int .i64 r7.get_.Root])).set N4 (.cells [.int .i64 r7.root_, .int .i64 r7.count_, .fn 34 [] [.ref N3 0]]))⟩) (fun J => ?_) ?_); rotate_left; rintro _)
    | ((fail_if_success (have _x := sN1)); with_reducible intro hh N1 hN1; (try simp only [set_none] at hN1); have sN1 := hN1; revert hh)
    | (have _x := sN1; clear _x; (fail_if_success (have _x := sN2)); with_reducible intro hh N2 hN2; (try simp only [set_none] at hN2); obtain ⟨nN2N1, sN2⟩ := hN2; revert hh)
    | (have _x := sN2; clear _x; (fail_if_success (have _x := sN3)); with_reducible intro hh N3 hN3; (try simp only [set_none] at hN3); obtain ⟨nN3N2, nN3N1, sN3⟩ := hN3; revert hh)
    | (have _x := sN3; clear _x; (fail_if_success (have _x := sN4)); with_reducible intro hh N4 hN4; (try simp only [set_none] at hN4); obtain ⟨nN4N3, nN4N2, nN4N1, sN4⟩ := hN4; revert hh)
    | with_reducible exact fun hh => ⟨_, SubS.set (SubS.set (SubS.set (SubS.set (SubS.refl _) (by simp [Store.set, sN1])) (by simp [Store.set, sN2])) (by simp [Store.set, sN3])) (by simp [Store.set, sN4]), hh⟩
    | with_reducible exact fun hh => ⟨_, SubS.set (SubS.set (SubS.set (SubS.refl _) (by simp [Store.set, sN1])) (by simp [Store.set, sN2])) (by simp [Store.set, sN3]), hh⟩
    | with_reducible exact fun hh => ⟨_, SubS.set (SubS.set (SubS.refl _) (by simp [Store.set, sN1])) (by simp [Store.set, sN2]), hh⟩
    | with_reducible exact fun hh => ⟨_, SubS.set (SubS.refl _) (by simp [Store.set, sN1]), hh⟩
    | with_reducible exact fun hh => ⟨_, SubS.refl _, hh⟩
    | simp -implicitDefEqProofs only [go_sem, start, startE, resVs, resV, resC, allV, retK, Nat.reduceBEq, Nat.reduceAdd, Nat.reduceMul, Nat.reduceLeDiff, Nat.reduceEqDiff, Nat.reduceBNe, Nat.ble_eq, UInt8.reduceToNat, set_ne nN2N1, set_ne nN2N1.symm, set_comm nN2N1.symm, set_ne nN3N1, set_ne nN3N1.symm, set_comm nN3N1.symm, set_ne nN3N2, set_ne nN3N2.symm, set_comm nN3N2.symm, set_ne nN4N1, set_ne nN4N1.symm, set_comm nN4N1.symm, set_ne nN4N2, set_ne nN4N2.symm, set_comm nN4N2.symm, set_ne nN4N3, set_ne nN4N3.symm, set_comm nN4N3.symm]
    | simp -implicitDefEqProofs only [go_sem, start, startE, resVs, resV, resC, allV, retK, Nat.reduceBEq, Nat.reduceAdd, Nat.reduceMul, Nat.reduceLeDiff, Nat.reduceEqDiff, Nat.reduceBNe, Nat.ble_eq, UInt8.reduceToNat, set_ne nN2N1, set_ne nN2N1.symm, set_comm nN2N1.symm, set_ne nN3N1, set_ne nN3N1.symm, set_comm nN3N1.symm, set_ne nN3N2, set_ne nN3N2.symm, set_comm nN3N2.symm]
    | simp -implicitDefEqProofs only [go_sem, start, startE, resVs, resV, resC, allV, retK, Nat.reduceBEq, Nat.reduceAdd, Nat.reduceMul, Nat.reduceLeDiff, Nat.reduceEqDiff, Nat.reduceBNe, Nat.ble_eq, UInt8.reduceToNat, set_ne nN2N1, set_ne nN2N1.symm, set_comm nN2N1.symm]
    | simp -implicitDefEqProofs only [go_sem, start, startE, resVs, resV, resC, allV, retK, Nat.reduceBEq, Nat.reduceAdd, Nat.reduceMul, Nat.reduceLeDiff, Nat.reduceEqDiff, Nat.reduceBNe, Nat.ble_eq, UInt8.reduceToNat]
    | simp -implicitDefEqProofs only [go_sem, start, startE, resVs, resV, resC, allV, retK, Nat.reduceBEq, Nat.reduceAdd, Nat.reduceMul, Nat.reduceLeDiff, Nat.reduceEqDiff, Nat.reduceBNe, Nat.ble_eq, UInt8.reduceToNat])
theorem law20_TreeAll_fe {d_0} {s : Store} {r : Bool}  (h : law20_TreeAll d_0 = some r) : FE Go.Proofs.Tryz.prog 5 [.agg [.sl false 6 d_0.Objects.length (flat d_0.Objects), .int .i64 d_0.Root]] s [.bool r] s := law20_TreeAll_fn   ⟨r, h, rfl, rfl⟩
end Go.AB
end

section
namespace Go.AB
open Go

/-- A search for a name ends, within the dictionary. -/
theorem value_find_some (v : api_Value) (key : Str) (h : (v.L.length : Int) ≤ 4611686018427387904) : ∃ r, value_find v key = some r ∧ -1 ≤ r ∧ r < v.L.length := by
  by_cases hk : (v.Kind != 7) = true
  · refine ⟨-1, ?_, by omega, by omega⟩
    unfold value_find; rw [if_pos hk]
  · have hit : ∃ o : Unit ⊕ Int, iter (fun (i2 : Int) =>
          if decide (i2 < (v.L.length : Int)) then
            need (0 ≤ i2 ∧ i2 < v.L.length) <|
            need ((((ix v.L i2).Kind) == 5) = true → 0 ≤ i2 ∧ i2 < v.L.length) <|
            if (((ix v.L i2).Kind) == 5) && (((ix v.L i2).S).b == key.b) then
              some (.inr (.inr i2))
            else
              some (.inl (w64 (i2 + 2)))
          else
            some (.inr (.inl ()))) 0 = some o ∧ (∀ r, o = .inr r → 0 ≤ r ∧ r < v.L.length) := by
      refine iter_inv (fun i => 0 ≤ i) (fun i => ((v.L.length : Int) - i).toNat) _ (Int.le_refl 0) (by omega) fun i hi => ?_
      by_cases hl : i < (v.L.length : Int)
      · rw [if_pos (by simpa using hl), need_pos ⟨hi, hl⟩, need_pos (fun _ => ⟨hi, hl⟩)]
        split
        · refine ⟨_, rfl, ?_⟩
          rintro r e; injection e with e; subst e; exact ⟨hi, hl⟩
        · refine ⟨_, rfl, ?_⟩
          show 0 ≤ w64 (i + 2) ∧ ((v.L.length : Int) - w64 (i + 2)).toNat < ((v.L.length : Int) - i).toNat
          rw [w64_id (by omega) (by omega)]
          exact ⟨by omega, by omega⟩
      · rw [if_neg (by simpa using hl)]
        exact ⟨_, rfl, fun r e => by cases e⟩
    obtain ⟨o, h1, h2⟩ := hit
    unfold value_find
    rw [if_neg hk, h1]
    cases o with
    | inl u => exact ⟨-1, rfl, by omega, by omega⟩
    | inr r => exact ⟨r, rfl, by have := h2 r rfl; omega, by have := h2 r rfl; omega⟩

theorem ref11_Find_eq (v : api_Value) (key : Str) : ref11_Find v key = value_find v key := by
  unfold ref11_Find value_find
  by_cases hk : (v.Kind == 7) = true
  · have hk' : (v.Kind != 7) = false := by rw [bne, hk]; rfl
    simp only [hk, hk', Bool.true_and, Bool.false_eq_true, if_false]
  · have hk2 : (v.Kind == 7) = false := by simpa using hk
    have hk' : (v.Kind != 7) = true := by rw [bne, hk2]; rfl
    rw [iter_eq (o := .inl ()) (fun _ => True) (fun _ => 0) trivial (by decide) fun i _ => .inr (by simp only [hk2, Bool.false_and, Bool.false_eq_true, if_false])]
    simp only [hk', if_true]
    rfl

theorem value_Get_some (v : api_Value) (key : Str) (h : (v.L.length : Int) ≤ 4611686018427387904) : ∃ r, value_Get v key = some r := by
  obtain ⟨r, h1, h2, h3⟩ := value_find_some v key h
  unfold value_Get
  rw [h1, bnd_some]
  by_cases h0 : r < 0
  · rw [if_pos (by simpa using h0)]; exact ⟨_, rfl⟩
  · rw [if_neg (by simpa using h0), w64_id (by omega) (by omega)]
    by_cases h4 : (r + 1 == (v.L.length : Int)) = true
    · rw [if_pos h4]; exact ⟨_, rfl⟩
    · rw [if_neg h4, need_pos (by have : ¬ r + 1 = (v.L.length : Int) := by simpa using h4
                                  exact ⟨by omega, by omega⟩)]
      exact ⟨_, rfl⟩
theorem ref11_Get_eq (v : api_Value) (key : Str) (h : (v.L.length : Int) ≤ 4611686018427387904) : ref11_Get v key = value_Get v key := by
  obtain ⟨r, h1, h2, h3⟩ := value_find_some v key h
  unfold ref11_Get value_Get
  rw [ref11_Find_eq, h1, bnd_some, bnd_some]
  by_cases h0 : r < 0
  · have e0 : (decide (r < 0)) = true := by simpa using h0
    simp only [e0, if_true]
  · have e0 : (decide (r < 0)) = false := by simpa using h0
    simp only [e0, Bool.false_eq_true, if_false]
    rw [w64_id (n := r + 1) (by omega) (by omega), w64_id (n := (v.L.length : Int) - 1) (by omega) (by omega)]
    have e : (r == (v.L.length : Int) - 1) = (r + 1 == (v.L.length : Int)) := by
      rw [Bool.eq_iff_iff, beq_iff_eq, beq_iff_eq]; omega
    rw [e]
/-- A name that is not there is a null. -/
theorem value_Get_no (v : api_Value) (key : Str) (r : api_Value × Bool) (h : value_Get v key = some r) (h2 : r.2 = false) : r.1.Kind = 0 := by
  unfold value_Get at h
  cases hf : value_find v key with
  | none => rw [hf] at h; cases h
  | some i =>
    rw [hf, bnd_some] at h
    split at h
    · injection h with h; subst h; rfl
    · split at h
      · injection h with h; subst h; cases h2
      · unfold need at h
        split at h
        · injection h with h; subst h; cases h2
        · cases h
end Go.AB
end

section
namespace Go.AB
open Go

/-- A value of so many parts at most. -/
def W : Nat → api_Value → Prop
  | 0, _ => False
  | n + 1, v => v.L.length ≤ n ∧ ∀ x ∈ v.L, W n x
theorem W_mono : ∀ (n m : Nat) (v : api_Value), n ≤ m → W n v → W m v
  | 0, _, _, _, h => h.elim
  | n + 1, 0, _, hm, _ => by omega
  | n + 1, m + 1, v, hm, h => ⟨by have := h.1; omega, fun x hx => W_mono n m x (by omega) (h.2 x hx)⟩

theorem few (fuel : Nat) : ∀ (v : api_Value) (left : Int), 0 ≤ left → left < fuel → left ≤ 4611686018427387904 → ∃ r, ref11_Few fuel v left = some r ∧ -1 ≤ r ∧ r < left ∧ (0 ≤ r → W left.toNat v) := by
  induction fuel with
  | zero => intro v left h0 h1; omega
  | succ fuel ih =>
    intro v left h0 h1 h2
    rw [ref11_Few]
    have hit : ∃ o : Int, iter (fun ((left2, k3) : Int × Int) =>
        if (decide (k3 < (v.L.length : Int))) && (decide (left2 ≥ 0)) then
          need (0 ≤ k3 ∧ k3 < v.L.length) <|
          bnd (ref11_Few fuel (ix v.L k3) left2) fun r5 =>
          some (.inl (r5, w64 (k3 + 1)))
        else
          some (.inr left2)) (w64 (left - 1), 0) = some o ∧ (-1 ≤ o ∧ o < left ∧ (0 ≤ o → W left.toNat v)) := by
      rw [w64_id (by omega) (by omega)]
      refine iter_inv (fun s => 0 ≤ s.2 ∧ -1 ≤ s.1 ∧ s.2 + s.1 ≤ left - 1 ∧ s.2 ≤ (v.L.length : Int) ∧ (0 ≤ s.1 → ∀ j : Nat, (j : Int) < s.2 → W (left - 1).toNat (ix v.L (j : Int)))) (fun s => (s.1 + 1).toNat) _ ?h (by show (left - 1 + 1).toNat < _; omega) ?s
      case h => exact ⟨Int.le_refl 0, by show -1 ≤ left - 1; omega, by show 0 + (left - 1) ≤ left - 1; omega, by show (0 : Int) ≤ _; omega, fun _ j hj => by have : (j : Int) < 0 := hj; omega⟩
      case s =>
        intro s hs
        obtain ⟨l2, k⟩ := s
        obtain ⟨i1, i2, i3, i4, i5⟩ := hs
        simp only at i1 i2 i3 i4 i5
        by_cases hc : k < (v.L.length : Int) ∧ 0 ≤ l2
        · have e : ((decide (k < (v.L.length : Int))) && (decide (l2 ≥ 0))) = true := by simp; exact ⟨hc.1, hc.2⟩
          obtain ⟨r, h3, h4, h5, h6⟩ := ih (ix v.L k) l2 hc.2 (by omega) (by omega)
          simp only [e, if_true]
          rw [need_pos ⟨i1, hc.1⟩, h3, bnd_some]
          refine ⟨_, rfl, ?_⟩
          rw [w64_id (by omega) (by omega)]
          refine ⟨⟨by show 0 ≤ k + 1; omega, h4, by show k + 1 + r ≤ left - 1; omega, by show k + 1 ≤ _; omega, fun hr j hj => ?_⟩, by show (r + 1).toNat < (l2 + 1).toNat; omega⟩
          have hr' : 0 ≤ r := hr
          have hj' : (j : Int) < k + 1 := hj
          by_cases hjk : (j : Int) < k
          · exact i5 hc.2 j hjk
          · rw [show (j : Int) = k by omega]
            exact W_mono _ _ _ (by omega) (h6 hr')
        · have e : ((decide (k < (v.L.length : Int))) && (decide (l2 ≥ 0))) = false := by
            cases h : ((decide (k < (v.L.length : Int))) && (decide (l2 ≥ 0))) with
            | false => rfl
            | true => simp at h; exact (hc ⟨h.1, h.2⟩).elim
          simp only [e, Bool.false_eq_true, if_false]
          refine ⟨_, rfl, i2, by show l2 < left; omega, fun hl => ?_⟩
          have hl' : 0 ≤ l2 := hl
          have hk : k = (v.L.length : Int) := by
            by_cases h : k < (v.L.length : Int)
            · exact (hc ⟨h, hl'⟩).elim
            · omega
          obtain ⟨m, hm⟩ : ∃ m, left.toNat = m + 1 := ⟨left.toNat - 1, by omega⟩
          rw [hm]
          refine ⟨by omega, fun x hx => ?_⟩
          obtain ⟨j, hj, rfl⟩ := List.getElem_of_mem hx
          have := i5 hl' j (by omega)
          rw [ix_nat hj, show (left - 1).toNat = m by omega] at this
          exact this
    obtain ⟨o, h3, h4⟩ := hit
    rw [h3]
    exact ⟨o, rfl, h4⟩

theorem texts : ∀ (n : Nat) (v : api_Value) (fuel : Nat), W n v → n ≤ fuel → n ≤ 4611686018427387904 → ∃ b, ref14_texts fuel v = some b
  | 0, _, _, h, _, _ => h.elim
  | n + 1, _, 0, _, h, _ => by omega
  | n + 1, v, fuel + 1, h, hf, hn => by
    rw [ref14_texts]
    have hit : ∃ o : Unit ⊕ Bool, iter (fun (k3 : Int) =>
          if decide (k3 < (v.L.length : Int)) then
            need (0 ≤ k3 ∧ k3 < v.L.length) <|
            bnd (ref14_texts fuel (ix v.L k3)) fun r6 =>
            if !r6 then
              some (.inr (.inr false))
            else
              some (.inl (w64 (k3 + 1)))
          else
            some (.inr (.inl ()))) 0 = some o ∧ True := by
      refine iter_inv (fun k => 0 ≤ k) (fun k => ((v.L.length : Int) - k).toNat) _ (Int.le_refl 0) (by have := h.1; omega) fun k hk => ?_
      by_cases hl : k < (v.L.length : Int)
      · rw [if_pos (by simpa using hl), need_pos ⟨hk, hl⟩]
        obtain ⟨b, hb⟩ := texts n (ix v.L k) fuel (by
          rw [ix_at (by omega)]
          exact h.2 _ (List.getElem_mem _)) (by omega) (by omega)
        rw [hb, bnd_some]
        cases b with
        | false => exact ⟨_, rfl, trivial⟩
        | true =>
          refine ⟨_, rfl, ?_⟩
          have := h.1
          show 0 ≤ w64 (k + 1) ∧ ((v.L.length : Int) - w64 (k + 1)).toNat < ((v.L.length : Int) - k).toNat
          rw [w64_id (by omega) (by omega)]
          exact ⟨by omega, by omega⟩
      · rw [if_neg (by simpa using hl)]
        exact ⟨_, rfl, trivial⟩
    obtain ⟨o, h1, _⟩ := hit
    rw [h1]
    cases o with
    | inl u => exact ⟨_, rfl⟩
    | inr b => exact ⟨_, rfl⟩

theorem ref14_Few_some (o : api_Object) (n : Int) : ∃ b, ref14_Few o n = some b ∧ (b = true → W 300 o.V) := by
  obtain ⟨r, h1, h2, h3, h4⟩ := few bigN o.V 300 (by decide) (by decide) (by decide)
  unfold ref14_Few
  rw [h1, bnd_some]
  by_cases hc : ((decide (r ≥ 0)) && (decide ((o.Data.b.length : Int) ≤ n))) = true
  · have hr : 0 ≤ r := by simp at hc; exact hc.1
    obtain ⟨b, hb⟩ := texts 300 o.V bigN (h4 hr) (by decide) (by decide)
    rw [hc, whenB_t, hb, bnd_some]
    exact ⟨_, rfl, fun _ => h4 hr⟩
  · have hc' : ((decide (r ≥ 0)) && (decide ((o.Data.b.length : Int) ≤ n))) = false := by simpa using hc
    rw [hc', whenB_f, bnd_some]
    exact ⟨_, rfl, fun h => by cases h⟩
end Go.AB
end

section
namespace Go.AB
open Go
theorem law20_works_true : law20_works = some true := by kernel_rfl
end Go.AB
end

section
namespace Go.AB
open Go

theorem W_len {v : api_Value} {n : Nat} (h : W n v) : (v.L.length : Int) ≤ n := by
  cases n with
  | zero => exact h.elim
  | succ n => have := h.1; omega

theorem ref19_Few_one (o : api_Object) : ∃ b, ref19_Few [o] 1 = some b ∧ (b = true → W 300 o.V) := by
  obtain ⟨b, h1, h2⟩ := ref14_Few_some o 300
  have hx : ix [o] 0 = o := rfl
  unfold ref19_Few
  rw [if_neg (by simp)]
  cases b with
  | false =>
    rw [iter_eq (o := .inr false) (fun k => k = 0) (fun _ => 0) rfl (by decide) fun k hk => .inr (by
      subst hk
      rw [if_pos (by simp), need_pos (by simp), hx, h1]; rfl)]
    exact ⟨false, rfl, fun h => by cases h⟩
  | true =>
    rw [iter_eq (o := .inl ()) (fun k => k = 0 ∨ k = 1) (fun k => (1 - k).toNat) (.inl rfl) (by decide) fun k hk => by
      rcases hk with rfl | rfl
      · refine .inl ⟨1, ?_, .inr rfl, by decide⟩
        rw [if_pos (by simp), need_pos (by simp), hx, h1]; rfl
      · exact .inr (by rw [if_neg (by simp)])]
    exact ⟨true, rfl, fun _ => h2 rfl⟩

theorem typed_eq (o : api_Object) (name : Str) (h : (o.V.L.length : Int) ≤ 4611686018427387904) : ∃ t, tree_typed o name = some t ∧ ref20_Typed o name = some t := by
  obtain ⟨r, hr⟩ := value_Get_some o.V (Str.mk [84, 121, 112, 101]) h
  unfold tree_typed ref20_Typed
  rw [ref11_Get_eq _ _ h, hr, bnd_some, bnd_some]
  refine ⟨_, rfl, ?_⟩
  cases h2 : r.2 with
  | true => simp
  | false =>
    have := value_Get_no _ _ _ hr h2
    rw [this]; simp

def allRef (l : List api_Value) : Bool := l.all fun x => x.Kind == 8
def nums (l : List api_Value) : List Int := l.map fun x => x.N

theorem Get_W {v : api_Value} {n : Nat} {key : Str} {r : api_Value × Bool} (hw : W (n + 1) v) (h : value_Get v key = some r) : (r.1.L.length : Int) ≤ n := by
  unfold value_Get at h
  cases hf : value_find v key with
  | none => rw [hf] at h; cases h
  | some i =>
    rw [hf, bnd_some] at h
    split at h
    · injection h with h; subst h; simp
    · split at h
      · injection h with h; subst h; simp
      · unfold need at h
        split at h
        · rename_i hb
          injection h with h; subst h
          show ((ix v.L _).L.length : Int) ≤ n
          rw [ix_at (by omega)]
          have := hw.2 _ (List.getElem_mem (l := v.L) (n := (w64 (i + 1)).toNat) (by omega))
          cases n with
          | zero => exact this.elim
          | succ n => have := this.1; omega
        · cases h

/-- The references among the first k. -/
theorem take_succ_nums (l : List api_Value) (k : Nat) (h : k < l.length) : nums (l.take (k + 1)) = nums (l.take k) ++ [(ix l (k : Int)).N] := by
  unfold nums; rw [List.take_add_one, List.map_append, ix_nat h]; simp [h]
theorem take_succ_all (l : List api_Value) (k : Nat) (h : k < l.length) : allRef (l.take (k + 1)) = (allRef (l.take k) && ((ix l (k : Int)).Kind == 8)) := by
  unfold allRef; rw [List.take_add_one, List.all_append, ix_nat h]; simp [h]
theorem all_of_take (l : List api_Value) (k : Nat) (h : k < l.length) (hk : ((ix l (k : Int)).Kind == 8) = false) : allRef l = false := by
  cases ha : allRef l with
  | false => rfl
  | true =>
    have := List.all_eq_true.1 ha _ (List.getElem_mem h)
    rw [ix_nat h] at hk
    rw [hk] at this; cases this

theorem loop_node (l : List api_Value) (n c : Int) (v : api_Value) (h : (l.length : Int) ≤ 300) :
    ∃ o : tree_node ⊕ tree_node × Bool, iter (fun ((x9, t10) : tree_node × Int) =>
          if decide (t10 < (l.length : Int)) then
            need (0 ≤ t10 ∧ t10 < l.length) <|
            if ((ix l t10).Kind) != 8 then
              some (.inr (.inr (x9, false)))
            else
              need ((x9.kids_.length + [(ix l t10).N].length) * 8 ≤ room) <|
              some (.inl ((tree_node.mk x9.n_ x9.v_ (x9.kids_ ++ [(ix l t10).N]) x9.count_), w64 (t10 + 1)))
          else
            some (.inr (.inl x9))) ((tree_node.mk n v ([] : List Int) c), 0) = some o ∧ ((allRef l = true ∧ o = .inl ⟨n, v, nums l, c⟩) ∨ (allRef l = false ∧ ∃ x, o = .inr (x, false))) := by
  refine iter_inv (fun s => ∃ k : Nat, s.2 = (k : Int) ∧ k ≤ l.length ∧ s.1 = ⟨n, v, nums (l.take k), c⟩ ∧ allRef (l.take k) = true) (fun s => ((l.length : Int) - s.2).toNat) _ ⟨0, rfl, Nat.zero_le _, rfl, rfl⟩ (by show ((l.length : Int) - 0).toNat < _; omega) ?_
  rintro ⟨x, t⟩ ⟨k, h1, h2, h3, h4⟩
  simp only at h1 h3
  subst h1 h3
  by_cases hl : k < l.length
  · have e : decide ((k : Int) < (l.length : Int)) = true := by simp; exact hl
    simp only [e, if_true]
    rw [need_pos ⟨by omega, by omega⟩]
    cases hk : ((ix l (k : Int)).Kind == 8) with
    | false =>
      have hk' : ((ix l (k : Int)).Kind != 8) = true := by rw [bne, hk]; rfl
      simp only [hk', if_true]
      exact ⟨_, rfl, .inr ⟨all_of_take l k hl hk, _, rfl⟩⟩
    | true =>
      have hk' : ((ix l (k : Int)).Kind != 8) = false := by rw [bne, hk]; rfl
      have hn : (nums (l.take k)).length = k := by unfold nums; simp; omega
      simp only [hk', Bool.false_eq_true, if_false]
      rw [need_pos (by rw [hn]; unfold room; simp; omega)]
      refine ⟨_, rfl, ?_⟩
      rw [w64_id (by omega) (by omega)]
      exact ⟨⟨k + 1, by show (k : Int) + 1 = _; omega, hl, by rw [take_succ_nums l k hl], by rw [take_succ_all l k hl, h4, hk]; rfl⟩, by show ((l.length : Int) - ((k : Int) + 1)).toNat < ((l.length : Int) - (k : Int)).toNat; omega⟩
  · have e : decide ((k : Int) < (l.length : Int)) = false := by simp; omega
    simp only [e, Bool.false_eq_true, if_false]
    have hk : l.take k = l := List.take_of_length_le (by omega)
    rw [hk] at h4 ⊢
    exact ⟨_, rfl, .inl ⟨h4, rfl⟩⟩

def resN (l : List api_Value) : List Int ⊕ Int × List Int × Bool := if allRef l = true then .inl (nums l) else .inr (0, [], false)
theorem loop_ref (l : List api_Value) (h : (l.length : Int) ≤ 300) :
    ∃ o : List Int ⊕ Int × List Int × Bool, iter (fun ((out9, k10) : (List Int) × Int) =>
          if decide (k10 < (l.length : Int)) then
            need (0 ≤ k10 ∧ k10 < l.length) <|
            if ((ix l k10).Kind) != 8 then
              some (.inr (.inr ((0 : Int), ([] : List Int), false)))
            else
              need (0 ≤ k10 ∧ k10 < l.length) <|
              need ((out9.length + [(ix l k10).N].length) * 8 ≤ room) <|
              some (.inl (out9 ++ [(ix l k10).N], w64 (k10 + 1)))
          else
            some (.inr (.inl out9))) (([] : List Int), 0) = some o ∧ o = resN l := by
    refine iter_inv (fun s => ∃ k : Nat, s.2 = (k : Int) ∧ k ≤ l.length ∧ s.1 = nums (l.take k) ∧ allRef (l.take k) = true) (fun s => ((l.length : Int) - s.2).toNat) _ ⟨0, rfl, Nat.zero_le _, rfl, rfl⟩ (by show ((l.length : Int) - 0).toNat < _; omega) ?_
    rintro ⟨x, t⟩ ⟨k, h1, h2, h3, h4⟩
    simp only at h1 h3
    subst h1 h3
    by_cases hl : k < l.length
    · have e : decide ((k : Int) < (l.length : Int)) = true := by simp; exact hl
      simp only [e, if_true]
      rw [need_pos ⟨by omega, by omega⟩]
      cases hk : ((ix l (k : Int)).Kind == 8) with
      | false =>
        have hk' : ((ix l (k : Int)).Kind != 8) = true := by rw [bne, hk]; rfl
        simp only [hk', if_true]
        exact ⟨_, rfl, by show _ = resN l; unfold resN; rw [all_of_take l k hl hk]; rfl⟩
      | true =>
        have hk' : ((ix l (k : Int)).Kind != 8) = false := by rw [bne, hk]; rfl
        have hn : (nums (l.take k)).length = k := by unfold nums; simp; omega
        simp only [hk', Bool.false_eq_true, if_false]
        rw [need_pos ⟨by omega, by omega⟩, need_pos (by rw [hn]; unfold room; simp; omega)]
        refine ⟨_, rfl, ?_⟩
        rw [w64_id (by omega) (by omega)]
        exact ⟨⟨k + 1, by show (k : Int) + 1 = _; omega, hl, by rw [take_succ_nums l k hl], by rw [take_succ_all l k hl, h4, hk]; rfl⟩, by show ((l.length : Int) - ((k : Int) + 1)).toNat < ((l.length : Int) - (k : Int)).toNat; omega⟩
    · have e : decide ((k : Int) < (l.length : Int)) = false := by simp; omega
      simp only [e, Bool.false_eq_true, if_false]
      have hk : l.take k = l := List.take_of_length_le (by omega)
      rw [hk] at h4 ⊢
      exact ⟨_, rfl, by show _ = resN l; unfold resN; rw [h4]; rfl⟩
end Go.AB
end

section
namespace Go.AB
open Go

/-- A loop whose states are known, up to its end. -/
theorem iter_upto {S O : Type} {body : S → Option (S ⊕ O)} {s0 : S} {o : O} (n : Nat) (st : Nat → S) (h0 : st 0 = s0) (hn : n < 18446744073709551615) (hs : ∀ k, k < n → body (st k) = some (.inl (st (k + 1)))) (he : body (st n) = some (.inr o)) : iter body s0 = some o := by
  have key : ∀ j, j ≤ n → ∀ m, iterN body (m + 1 + j) (st (n - j)) = some o := by
    intro j
    induction j with
    | zero =>
      intro _ m
      show iterN body (m + 1) (st n) = some o
      unfold iterN
      rw [he]
    | succ j ih =>
      intro hj m
      show iterN body (m + 1 + j + 1) (st (n - (j + 1))) = some o
      unfold iterN
      rw [hs _ (by omega), show n - (j + 1) + 1 = n - j by omega]
      exact ih (by omega) m
  have := key n (Nat.le_refl n) (18446744073709551616 - 1 - n)
  rw [Nat.sub_self, h0, show 18446744073709551616 - 1 - n + 1 + n = 18446744073709551616 by omega] at this
  exact this

theorem iter_acc {A O : Type} {body : A × Int → Option ((A × Int) ⊕ O)} {a0 : A} {o : O} (n : Nat) (acc : Nat → A) (h0 : acc 0 = a0) (hn : n < 4611686018427387904) (hs : ∀ k, k < n → body (acc k, (k : Int)) = some (.inl (acc (k + 1), w64 ((k : Int) + 1)))) (he : body (acc n, (n : Int)) = some (.inr o)) : iter body (a0, 0) = some o :=
  iter_upto n (fun k => (acc k, (k : Int))) (by rw [h0]; rfl) (by omega) (fun k hk => by
    rw [hs k hk, w64_id (by omega) (by omega)]; rfl) he
theorem iter_cnt {O : Type} {body : Int → Option (Int ⊕ O)} {o : O} (n : Nat) (hn : n < 4611686018427387904) (hs : ∀ k, k < n → body (k : Int) = some (.inl (w64 ((k : Int) + 1)))) (he : body (n : Int) = some (.inr o)) : iter body 0 = some o :=
  iter_upto n (fun k => (k : Int)) rfl (by omega) (fun k hk => by
    rw [hs k hk, w64_id (by omega) (by omega)]; rfl) he
theorem jn_of {α β : Type} {o : Option α} {a : α} {K : α → Option β} {r : Option β} (h : o = some a) (k : K a = r) : jn o K = r := by rw [h]; exact k
theorem bnd_of {α β : Type} {o : Option α} {a : α} {K : α → Option β} {r : Option β} (h : o = some a) (k : K a = r) : bnd o K = r := by rw [h]; exact k
theorem jnS_of {X Y α : Type} {o : Option (X ⊕ Y)} {z : X ⊕ Y} {F : X → Option α} {G : Y → Option α} {r : Option α} (h : o = some z) (k : (match z with | .inl a => F a | .inr b => G b) = r) : jnS o F G = r := by
  rw [h]
  cases z <;> exact k
theorem bndS_of {X Y α : Type} {o : Option (X ⊕ Y)} {z : X ⊕ Y} {F : X → Option α} {G : Y → Option α} {r : Option α} (h : o = some z) (k : (match z with | .inl a => F a | .inr b => G b) = r) : bndS o F G = r := by
  rw [h]
  cases z <;> exact k
theorem need_of {α : Type} {c : Prop} [Decidable c] {o r : Option α} (h : c) (k : o = r) : need c o = r := by rw [need_pos h]; exact k
theorem if_of {α : Type} {c : Prop} [Decidable c] {a b r : α} (h : c) (k : a = r) : (if c then a else b) = r := by rw [if_pos h]; exact k
theorem if_not {α : Type} {c : Prop} [Decidable c] {a b r : α} (h : ¬ c) (k : b = r) : (if c then a else b) = r := by rw [if_neg h]; exact k

abbrev zeroV : api_Value := api_Value.mk 0 0 (Str.mk []) ([] : List api_Value)
abbrev zeroO : api_Object := api_Object.mk zeroV false (Str.mk [])

/-- A dictionary's rows. -/
def encP : List (Str × api_Value) → List api_Value
  | [] => []
  | p :: G => ⟨5, 0, p.1, []⟩ :: p.2 :: encP G
theorem encP_len : ∀ G : List (Str × api_Value), (encP G).length = 2 * G.length
  | [] => rfl
  | p :: G => by rw [encP, List.length_cons, List.length_cons, encP_len G, List.length_cons]; omega
theorem encP_key : ∀ (G : List (Str × api_Value)) (i : Nat) (h : i < G.length), (encP G).getD (2 * i) zeroV = ⟨5, 0, (G[i]).1, []⟩
  | p :: G, 0, _ => rfl
  | p :: G, i + 1, h => by
    show (⟨5, 0, p.1, []⟩ :: p.2 :: encP G).getD (2 * i + 1 + 1) zeroV = _
    rw [List.getD_cons_succ, List.getD_cons_succ]
    exact encP_key G i (by simpa using h)
theorem encP_val : ∀ (G : List (Str × api_Value)) (i : Nat) (h : i < G.length), (encP G).getD (2 * i + 1) zeroV = (G[i]).2
  | p :: G, 0, _ => rfl
  | p :: G, i + 1, h => by
    show (⟨5, 0, p.1, []⟩ :: p.2 :: encP G).getD (2 * i + 1 + 1 + 1) zeroV = _
    rw [List.getD_cons_succ, List.getD_cons_succ]
    exact encP_val G i (by simpa using h)
theorem ix_key {G : List (Str × api_Value)} {i : Nat} (h : i < G.length) : ix (encP G) (((2 * i : Nat)) : Int) = ⟨5, 0, (G[i]).1, []⟩ := encP_key G i h
theorem ix_val {G : List (Str × api_Value)} {i : Nat} (h : i < G.length) : ix (encP G) (((2 * i + 1 : Nat)) : Int) = (G[i]).2 := encP_val G i h

def aidx (G : List (Str × api_Value)) (p : Str → Bool) : Option Nat := G.findIdx? fun x => p x.1
theorem aidx_lt {G : List (Str × api_Value)} {p : Str → Bool} {i : Nat} (h : aidx G p = some i) : i < G.length := by
  unfold aidx at h
  obtain ⟨h, _⟩ := List.findIdx?_eq_some_iff_getElem.1 h
  exact h

/-- A loop over the names of a dictionary, for the first that is so. -/
theorem names_loop {O : Type} (G : List (Str × api_Value)) (p : Str → Bool) (hl : G.length ≤ 1000) (a : Nat → O) (b : O) (body : Int → Option (Int ⊕ O))
    (hb : ∀ i (h : i < G.length), body ((2 * i : Nat) : Int) = some (if p (G[i]).1 then .inr (a i) else .inl (w64 (((2 * i : Nat) : Int) + 2)))) (he : body ((2 * G.length : Nat) : Int) = some (.inr b)) :
    iter body 0 = some (match aidx G p with | some i => a i | none => b) := by
  cases hx : aidx G p with
  | none =>
    unfold aidx at hx
    rw [List.findIdx?_eq_none_iff] at hx
    refine iter_upto G.length (fun k => ((2 * k : Nat) : Int)) rfl (by omega) (fun k hk => ?_) he
    rw [hb k hk, hx _ (List.getElem_mem hk), if_neg (by simp), w64_id (by omega) (by omega)]
    congr 2
  | some i =>
    unfold aidx at hx
    obtain ⟨h1, h2, h3⟩ := List.findIdx?_eq_some_iff_getElem.1 hx
    refine iter_upto i (fun k => ((2 * k : Nat) : Int)) rfl (by omega) (fun k hk => ?_) ?_
    · rw [hb k (by omega), if_neg (by simpa using h3 k hk), w64_id (by omega) (by omega)]
      congr 2
    · rw [hb i h1, if_pos h2]

def dictV (G : List (Str × api_Value)) : api_Value := ⟨7, 0, ⟨[]⟩, encP G⟩
theorem find_dict (G : List (Str × api_Value)) (key : Str) (hl : G.length ≤ 1000) : value_find (dictV G) key = some (match aidx G (fun k => k.b == key.b) with | some i => ((2 * i : Nat) : Int) | none => -1) := by
  unfold value_find
  rw [if_neg (by simp [dictV])]
  have hlen : (dictV G).L.length = 2 * G.length := encP_len G
  rw [names_loop (O := Unit ⊕ Int) G (fun k => k.b == key.b) hl (fun i => .inr ((2 * i : Nat) : Int)) (.inl ()) _ ?_ ?_]
  · cases aidx G (fun k => k.b == key.b) <;> rfl
  · intro i h
    have hk : ix (dictV G).L ((2 * i : Nat) : Int) = ⟨5, 0, (G[i]).1, []⟩ := ix_key h
    have hc : decide (((2 * i : Nat) : Int) < ((dictV G).L.length : Int)) = true := by rw [hlen]; simp; omega
    simp only [hc, if_true]
    rw [need_pos (by rw [hlen]; omega), need_pos (fun _ => by rw [hlen]; omega), hk]
    cases h5 : ((G[i]).1.b == key.b) <;> simp [h5]
  · have hc : decide (((2 * G.length : Nat) : Int) < ((dictV G).L.length : Int)) = false := by rw [hlen]; simp
    simp only [hc, Bool.false_eq_true, if_false]
theorem putAt_dict (G : List (Str × api_Value)) (key : Str) (hl : G.length ≤ 1000) : value_putAt (dictV G) key = some (match aidx G (fun k => !((Op.bytesLess k.b key.b) || (k.b == key.b))) with | some i => ((2 * i : Nat) : Int) | none => ((2 * G.length : Nat) : Int)) := by
  unfold value_putAt
  have hlen : (dictV G).L.length = 2 * G.length := encP_len G
  rw [names_loop (O := Int) G (fun k => !((Op.bytesLess k.b key.b) || (k.b == key.b))) hl (fun i => ((2 * i : Nat) : Int)) ((2 * G.length : Nat) : Int) _ ?_ ?_]
  · intro i h
    have hk : ix (dictV G).L ((2 * i : Nat) : Int) = ⟨5, 0, (G[i]).1, []⟩ := ix_key h
    have hc : decide (((2 * i : Nat) : Int) < ((dictV G).L.length : Int)) = true := by rw [hlen]; simp; omega
    simp only [hc, if_true]
    rw [need_pos (by rw [hlen]; omega), need_pos (fun _ => by rw [hlen]; omega), hk]
    cases h5 : (!((Op.bytesLess (G[i]).1.b key.b) || ((G[i]).1.b == key.b))) <;> simp [h5]
  · have hc : decide (((2 * G.length : Nat) : Int) < ((dictV G).L.length : Int)) = false := by rw [hlen]; simp
    rw [if_neg (by rw [hc]; simp), hlen]
end Go.AB
end

section
namespace Go.AB
open Go

def kC : Str := Str.mk [67, 114, 111, 112, 66, 111, 120]
def kM : Str := Str.mk [77, 101, 100, 105, 97, 66, 111, 120]
def kR : Str := Str.mk [82, 101, 115, 111, 117, 114, 99, 101, 115]
def kT : Str := Str.mk [82, 111, 116, 97, 116, 101]
/-- Four names, in order, each with a value or none. -/
structure Gv where
  c : Option api_Value
  m : Option api_Value
  r : Option api_Value
  t : Option api_Value
def opt1 (k : Str) : Option api_Value → List (Str × api_Value)
  | none => []
  | some x => [(k, x)]
def Gv.L (g : Gv) : List (Str × api_Value) := opt1 kC g.c ++ (opt1 kM g.m ++ (opt1 kR g.r ++ opt1 kT g.t))
def Gv.v (g : Gv) : api_Value := dictV g.L
theorem Gv.len (g : Gv) : g.L.length ≤ 4 := by
  obtain ⟨c, m, r, t⟩ := g
  cases c <;> cases m <;> cases r <;> cases t <;> simp [Gv.L, opt1]
theorem room_ge : 100000 ≤ room := by decide

theorem put_Gv (g : Gv) (key : Str) (x y : api_Value) (h : (match aidx g.L (fun k => k.b == key.b) with
    | some i => ⟨7, 0, ⟨[]⟩, (encP g.L).take (2 * i + 1) ++ [x] ++ (encP g.L).drop (2 * i + 2)⟩
    | none => ⟨7, 0, ⟨[]⟩, (encP g.L).take (match aidx g.L (fun k => !((Op.bytesLess k.b key.b) || (k.b == key.b))) with | some i => 2 * i | none => 2 * g.L.length) ++ [⟨5, 0, key, []⟩, x] ++ (encP g.L).drop (match aidx g.L (fun k => !((Op.bytesLess k.b key.b) || (k.b == key.b))) with | some i => 2 * i | none => 2 * g.L.length)⟩) = y) : value_Put g.v key x = some y := by
  have hl := g.len
  have hroom := room_ge
  have hlen : g.v.L.length = 2 * g.L.length := encP_len g.L
  subst h
  unfold value_Put
  rw [if_neg (by simp [Gv.v, dictV]), need_pos (by rw [hlen]; omega), show g.v = dictV g.L from rfl, find_dict _ _ (by omega), putAt_dict _ _ (by omega), bnd_some, bnd_some]
  have hlen' : (dictV g.L).L.length = 2 * g.L.length := encP_len g.L
  cases h1 : aidx g.L (fun k => k.b == key.b) with
  | some i =>
    have hi := aidx_lt h1
    have h0 : decide (((2 * i : Nat) : Int) ≥ 0) = true := by simp; omega
    simp only [h0, if_true]
    rw [need_pos (by rw [hlen']; omega)]
    simp only [Int.toNat_natCast]
    rfl
  | none =>
    simp only [show decide ((-1 : Int) ≥ 0) = false by decide, Bool.false_eq_true, if_false]
    cases h2 : aidx g.L (fun k => !((Op.bytesLess k.b key.b) || (k.b == key.b))) with
    | some i =>
      have hi := aidx_lt h2
      simp only
      rw [need_pos (by rw [hlen']; omega)]
      simp only [Int.toNat_natCast]
      rfl
    | none =>
      simp only
      rw [need_pos (by rw [hlen']; omega)]
      simp only [Int.toNat_natCast]
      rfl
theorem put_C (g : Gv) (x : api_Value) : value_Put g.v kC x = some { g with c := some x }.v := by
  refine put_Gv g kC x _ ?_
  obtain ⟨c, m, r, t⟩ := g
  cases c <;> cases m <;> cases r <;> cases t <;> rfl
theorem put_M (g : Gv) (x : api_Value) : value_Put g.v kM x = some { g with m := some x }.v := by
  refine put_Gv g kM x _ ?_
  obtain ⟨c, m, r, t⟩ := g
  cases c <;> cases m <;> cases r <;> cases t <;> rfl
theorem put_R (g : Gv) (x : api_Value) : value_Put g.v kR x = some { g with r := some x }.v := by
  refine put_Gv g kR x _ ?_
  obtain ⟨c, m, r, t⟩ := g
  cases c <;> cases m <;> cases r <;> cases t <;> rfl
theorem put_T (g : Gv) (x : api_Value) : value_Put g.v kT x = some { g with t := some x }.v := by
  refine put_Gv g kT x _ ?_
  obtain ⟨c, m, r, t⟩ := g
  cases c <;> cases m <;> cases r <;> cases t <;> rfl

theorem drop_Gv (g : Gv) (key : Str) (y : api_Value) (h : (match aidx g.L (fun k => k.b == key.b) with
    | some i => ⟨7, 0, ⟨[]⟩, (encP g.L).take (2 * i) ++ (encP g.L).drop (2 * i + 2)⟩
    | none => dictV g.L) = y) : value_Drop g.v key = some y := by
  have hl := g.len
  have hroom := room_ge
  subst h
  unfold value_Drop
  rw [show g.v = dictV g.L from rfl, find_dict _ _ (by omega), bnd_some]
  have hlen' : (dictV g.L).L.length = 2 * g.L.length := encP_len g.L
  cases h1 : aidx g.L (fun k => k.b == key.b) with
  | some i =>
    have hi := aidx_lt h1
    have h0 : decide (((2 * i : Nat) : Int) < 0) = false := by simp; omega
    simp only [h0, Bool.false_eq_true, if_false]
    rw [need_pos (by rw [hlen']; omega), hlen']
    have : min (2 * i + 2) (2 * g.L.length) = 2 * i + 2 := by omega
    simp only [Int.toNat_natCast, this]
    rfl
  | none =>
    simp only [show decide ((-1 : Int) < 0) = true by decide, if_true]
theorem drop_C (g : Gv) : value_Drop g.v kC = some { g with c := none }.v := by
  refine drop_Gv g kC _ ?_
  obtain ⟨c, m, r, t⟩ := g
  cases c <;> cases m <;> cases r <;> cases t <;> rfl
theorem drop_M (g : Gv) : value_Drop g.v kM = some { g with m := none }.v := by
  refine drop_Gv g kM _ ?_
  obtain ⟨c, m, r, t⟩ := g
  cases c <;> cases m <;> cases r <;> cases t <;> rfl
theorem drop_R (g : Gv) : value_Drop g.v kR = some { g with r := none }.v := by
  refine drop_Gv g kR _ ?_
  obtain ⟨c, m, r, t⟩ := g
  cases c <;> cases m <;> cases r <;> cases t <;> rfl
theorem drop_T (g : Gv) : value_Drop g.v kT = some { g with t := none }.v := by
  refine drop_Gv g kT _ ?_
  obtain ⟨c, m, r, t⟩ := g
  cases c <;> cases m <;> cases r <;> cases t <;> rfl

/-! What a name has, as a function. -/
def pget (v : api_Value) (key : Str) : api_Value × Bool := (value_Get v key).getD (zeroV, false)
def Small (v : api_Value) : Prop := (v.L.length : Int) ≤ 4611686018427387904
theorem Small.of_W {n : Nat} {v : api_Value} (h : W n v) (hn : n ≤ 1000) : Small v := by
  have := W_len h
  unfold Small; omega
theorem get_eq {v : api_Value} (h : Small v) (key : Str) : value_Get v key = some (pget v key) := by
  obtain ⟨r, hr⟩ := value_Get_some v key h
  unfold pget; rw [hr]; rfl
theorem rget_eq {v : api_Value} (h : Small v) (key : Str) : ref11_Get v key = some (pget v key) := by rw [ref11_Get_eq v key h, get_eq h]

def over (o : Option api_Value) (r : api_Value × Bool) : Option api_Value := if r.2 then some r.1 else o
def lack (o : Option api_Value) (r : api_Value × Bool) : Option api_Value := if r.2 then none else o
def Gv.give (g : Gv) (v : api_Value) : Gv := ⟨over g.c (pget v kC), over g.m (pget v kM), over g.r (pget v kR), over g.t (pget v kT)⟩
def Gv.leave (g : Gv) (v : api_Value) : Gv := ⟨lack g.c (pget v kC), lack g.m (pget v kM), lack g.r (pget v kR), lack g.t (pget v kT)⟩

def giveN (g : Gv) (v : api_Value) : Nat → Gv
  | 0 => g
  | 1 => { g with r := over g.r (pget v kR) }
  | 2 => { g with r := over g.r (pget v kR), m := over g.m (pget v kM) }
  | 3 => { g with r := over g.r (pget v kR), m := over g.m (pget v kM), c := over g.c (pget v kC) }
  | _ => g.give v
def leaveN (g : Gv) (v : api_Value) : Nat → Gv
  | 0 => g
  | 1 => { g with r := lack g.r (pget v kR) }
  | 2 => { g with r := lack g.r (pget v kR), m := lack g.m (pget v kM) }
  | 3 => { g with r := lack g.r (pget v kR), m := lack g.m (pget v kM), c := lack g.c (pget v kC) }
  | _ => g.leave v
def key4 : Nat → Str
  | 0 => kR
  | 1 => kM
  | 2 => kC
  | _ => kT
theorem ix_key4 {k : Nat} (h : k < 4) : ix [kR, kM, kC, kT] (k : Int) = key4 k := by
  rcases (by omega : k = 0 ∨ k = 1 ∨ k = 2 ∨ k = 3) with rfl | rfl | rfl | rfl <;> rfl
theorem giveN_put {g : Gv} {v : api_Value} {k : Nat} (h : k < 4) (hp : (pget v (key4 k)).2 = true) : value_Put (giveN g v k).v (key4 k) (pget v (key4 k)).1 = some (giveN g v (k + 1)).v := by
  rcases (by omega : k = 0 ∨ k = 1 ∨ k = 2 ∨ k = 3) with rfl | rfl | rfl | rfl
  · simp only [key4] at hp ⊢; rw [put_R]; simp only [giveN, over, hp, if_true]
  · simp only [key4] at hp ⊢; rw [put_M]; simp only [giveN, over, hp, if_true]
  · simp only [key4] at hp ⊢; rw [put_C]; simp only [giveN, over, hp, if_true]
  · simp only [key4] at hp ⊢; rw [put_T]; simp only [giveN, Gv.give, over, hp, if_true]
theorem giveN_no {g : Gv} {v : api_Value} {k : Nat} (h : k < 4) (hp : (pget v (key4 k)).2 = false) : giveN g v (k + 1) = giveN g v k := by
  rcases (by omega : k = 0 ∨ k = 1 ∨ k = 2 ∨ k = 3) with rfl | rfl | rfl | rfl <;> simp only [key4] at hp <;> simp only [giveN, Gv.give, over, hp, Bool.false_eq_true, if_false]
theorem leaveN_put {g : Gv} {v : api_Value} {k : Nat} (h : k < 4) (hp : (pget v (key4 k)).2 = true) : value_Drop (leaveN g v k).v (key4 k) = some (leaveN g v (k + 1)).v := by
  rcases (by omega : k = 0 ∨ k = 1 ∨ k = 2 ∨ k = 3) with rfl | rfl | rfl | rfl
  · simp only [key4] at hp ⊢; rw [drop_R]; simp only [leaveN, lack, hp, if_true]
  · simp only [key4] at hp ⊢; rw [drop_M]; simp only [leaveN, lack, hp, if_true]
  · simp only [key4] at hp ⊢; rw [drop_C]; simp only [leaveN, lack, hp, if_true]
  · simp only [key4] at hp ⊢; rw [drop_T]; simp only [leaveN, Gv.leave, lack, hp, if_true]
theorem leaveN_no {g : Gv} {v : api_Value} {k : Nat} (h : k < 4) (hp : (pget v (key4 k)).2 = false) : leaveN g v (k + 1) = leaveN g v k := by
  rcases (by omega : k = 0 ∨ k = 1 ∨ k = 2 ∨ k = 3) with rfl | rfl | rfl | rfl <;> simp only [key4] at hp <;> simp only [leaveN, Gv.leave, lack, hp, Bool.false_eq_true, if_false]

theorem give_eq (g : Gv) (v : api_Value) (h : Small v) : tree_give g.v v = some (g.give v).v := by
  unfold tree_give tree_inherited
  rw [bnd_some]
  refine jn_of (iter_acc (o := (g.give v).v) 4 (fun k => (giveN g v k).v) rfl (by decide) (fun k hk => ?_) ?_) rfl
  · refine if_of (by show decide ((k : Int) < ((4 : Nat) : Int)) = true; simp; omega) (jn_of (need_of (by show 0 ≤ (k : Int) ∧ (k : Int) < ((4 : Nat) : Int); omega) ?_) rfl)
    change bnd (value_Get v (ix [kR, kM, kC, kT] (k : Int))) _ = _
    rw [ix_key4 hk, get_eq h, bnd_some]
    cases hp : (pget v (key4 k)).2 with
    | true =>
      refine if_of rfl ?_
      change bnd (value_Put _ (ix [kR, kM, kC, kT] (k : Int)) _) _ = _
      rw [ix_key4 hk, giveN_put hk hp, bnd_some]
    | false =>
      refine if_not (by simp) ?_
      rw [giveN_no hk hp]
  · exact if_not (by decide) rfl
theorem leaf_eq (n : Int) (page : api_Value) (path : List Int) (g : Gv) (h : Small page) : tree_leaf n page path g.v = some ⟨n, path, (g.leave page).v⟩ := by
  unfold tree_leaf tree_inherited
  rw [bnd_some]
  refine jn_of (iter_acc (o := (g.leave page).v) 4 (fun k => (leaveN g page k).v) rfl (by decide) (fun k hk => ?_) ?_) rfl
  · refine if_of (by show decide ((k : Int) < ((4 : Nat) : Int)) = true; simp; omega) (jn_of (need_of (by show 0 ≤ (k : Int) ∧ (k : Int) < ((4 : Nat) : Int); omega) ?_) rfl)
    change bnd (value_Get page (ix [kR, kM, kC, kT] (k : Int))) _ = _
    rw [ix_key4 hk, get_eq h, bnd_some]
    cases hp : (pget page (key4 k)).2 with
    | true =>
      refine if_of rfl ?_
      change bnd (value_Drop _ (ix [kR, kM, kC, kT] (k : Int))) _ = _
      rw [ix_key4 hk, leaveN_put hk hp, bnd_some]
    | false =>
      refine if_not (by simp) ?_
      rw [leaveN_no hk hp]
  · exact if_not (by decide) rfl
theorem dictOf_nil : value_DictOf ([] : List api_Value) = some (Gv.v ⟨none, none, none, none⟩) := by
  unfold value_DictOf
  rfl
end Go.AB
end
