/- A part of the proof: Pk, Pw, Pn, Fr, It, Rg0, Rg1, Spm, Sort1, Spl, Rg2, Rg3, Rkr, Rg4, Se, Sb. -/
import Derived.Test.YtemfmoalahmbkaaGreatFD4
import Derived.Shelf.SlSortCmp.WholeK
import Derived.Test.YtemfmoalahmbkaaGreatProg
import Derived.Ground.SlsfProg
set_option linter.unusedSimpArgs false
set_option linter.unusedVariables false
section
set_option maxRecDepth 4000
namespace Go.AB
open Go
attribute [-go_sem] xwp_cons xwpK_eq xalt_cons xalt_nil
structure NilP where
instance : Enc NilP := ⟨1, fun _ => [.nilp], .mk, by decide, fun _ => rfl, fun _ => rfl⟩
theorem lit_z {X : Prop} {A K : List AV → Prop} (h : X → K [.bool false]) : X → ∃ rs, rsOK rs = true ∧ (False → A rs) ∧ K rs := fun x => ⟨[.bool false], rfl, False.elim, h x⟩
theorem lit_z2 : True := trivial
theorem lit_y {X B C : Prop} (h : X → B) : X → (False → C) ∧ B := fun x => ⟨False.elim, h x⟩
theorem lit_w {X B C : Prop} (h : X → B) : X → (True → B) ∧ (False → C) := fun x => ⟨fun _ => h x, False.elim⟩
theorem lit_w2 : True := trivial
theorem lit_y2 {X B : Prop} (h : X → B) : X → (True → B) := fun x _ => h x
@[go_sem] theorem nl_eq00 : ((0 : Int) == 0) = true := rfl
@[go_sem] theorem nl_ge : decide ((0 : Int) ≥ 64) = false := rfl
@[go_sem] theorem nl_le : decide ((64 : Int) ≤ 0) = false := rfl
def parse_whole (t_0 : lex_Token) : Option (Bool) :=
  some ((t_0.Kind == 1) && (t_0.V.Kind == 2))
def ir_parse_whole : IC :=
 (.seq (.reg none [i1 1 (.boxL 8 (.t 0)),
 i1 2 (.mov false (.c (.bool false)))] [1])
 (.seq (.reg none [i1 3 (.fieldAddr 0 (.t 1)),
 i1 4 (.load 1 false (.t 3)),
 i1 5 (.bin .eql (.t 4) (.c (.int .i64 1))),
 mv 6 5,
 i1g 7 6 true (.fieldAddr 3 (.t 1)),
 i1g 8 6 true (.fieldAddr 0 (.t 7)),
 i1g 9 6 true (.load 1 false (.t 8)),
 i1g 10 6 true (.bin .eql (.t 9) (.c (.int .i64 2))),
 i1 11 (.pick (.t 6) (.t 10) (.c (.bool false))),
 mv 2 11] [2])
 .ret))
def res_parse_whole : List IRes := [⟨2, true, none⟩]
theorem is_parse_whole : fnIs Go.Proofs.Tryz.prog 183 12 res_parse_whole ir_parse_whole = true := by kernel_rfl
theorem parse_whole_fn {t_0} {s : Store} {Q : List AV → Store → Prop}  : ok (parse_whole t_0) (fun r => Q [.bool r] s) → FN Go.Proofs.Tryz.prog 183 [.agg [.int .i64 t_0.Kind, .int .i64 t_0.From, .int .i64 t_0.To, .int .i64 t_0.V.Kind, .int .i64 t_0.V.N, .str t_0.V.S.b, .sl false 4 t_0.V.L.length (flat t_0.V.L), .str t_0.S.b]] s Q := by
  intro h
  refine FN.of (draw_ok mix) is_parse_whole rfl (Nat.le_of_ble_eq_true rfl) ?_
  revert h
  rw [ir_parse_whole, res_parse_whole, parse_whole]
  repeat' (first
    | simp -implicitDefEqProofs only [go_sem, start, startE, resVs, resV, resC, allV, retK, Nat.reduceBEq, Nat.reduceAdd, Nat.reduceMul, Nat.reduceLeDiff, Nat.reduceEqDiff, Nat.reduceBNe, Nat.ble_eq, UInt8.reduceToNat, UInt32.reduceToNat])
theorem parse_whole_fe {t_0} {s : Store} {r : Bool}  (h : parse_whole t_0 = some r) : FE Go.Proofs.Tryz.prog 183 [.agg [.int .i64 t_0.Kind, .int .i64 t_0.From, .int .i64 t_0.To, .int .i64 t_0.V.Kind, .int .i64 t_0.V.N, .str t_0.V.S.b, .sl false 4 t_0.V.L.length (flat t_0.V.L), .str t_0.S.b]] s [.bool r] s := parse_whole_fn  ⟨r, h, rfl, rfl⟩
structure parse_stack where
  b_ : (List UInt8)
  at_ : Int
  last_ : Bool
def parse_stack_top (s_0 : parse_stack) : Option (NilP) :=
  some NilP.mk
def ir_parse_stack_top : IC :=
 (.seq (.reg none [i1 2 (.mov false (.c (.nilp)))] [0])
 (.seq (.seq (.reg none [mv 3 0,
 i1 4 (.nilCheck (.t 3)),
 i1 5 (.fieldAddr 3 (.t 4)),
 i1 6 (.loadR [.sl false 1 0 []] false (.t 5)),
 i1 7 (.len 0 (.t 6)),
 i1 8 (.bin .eql (.t 7) (.c (.int .i64 0)))] [0, 8])
 (.cond (.t 8) (.seq (.reg none [i1 2 (.mov false (.c (.nilp)))] [2])
 .ret)
 .skip))
 (.seq (.reg (some 13) [mv 9 0,
 i1 10 (.nilCheck (.t 9)),
 i1 11 (.fieldAddr 3 (.t 10)),
 i1 12 (.load 1 false (.t 11)),
 mv 13 0,
 i1 14 (.nilCheck (.t 13)),
 i1 15 (.fieldAddr 3 (.t 14)),
 i1 16 (.load 1 false (.t 15)),
 i1 17 (.len 0 (.t 16)),
 i1 18 (.bin .sub (.t 17) (.c (.int .i64 1))),
 i1 19 (.indexAddr [.nilp] (.t 12) (.t 18)),
 i1 20 (.load 1 false (.t 19)),
 mv 2 20] [2])
 .ret)))
def res_parse_stack_top : List IRes := [⟨2, true, none⟩]
theorem is_parse_stack_top : fnIs Go.Proofs.Tryz.prog 137 21 res_parse_stack_top ir_parse_stack_top = true := by kernel_rfl
theorem parse_stack_top_fn {s_0} {B0 : Nat} {s : Store} {Q : List AV → Store → Prop} (hB0 : s B0 = some (.cells [.sl false 1 s_0.b_.length (flat s_0.b_), .int .i64 s_0.at_, .bool s_0.last_, .sl true 1 0 []])) : ok (parse_stack_top s_0) (fun r => Q [.nilp] s) → FN Go.Proofs.Tryz.prog 137 [.ref B0 0] s Q := by
  have hS : s = (s.set B0 (.cells [.sl false 1 s_0.b_.length (flat s_0.b_), .int .i64 s_0.at_, .bool s_0.last_, .sl true 1 0 []])) := by simp only [set_eq' hB0]
  rw [hS]
  intro h
  refine FN.of (draw_ok mix) is_parse_stack_top rfl (Nat.le_of_ble_eq_true rfl) ?_
  revert h
  rw [ir_parse_stack_top, res_parse_stack_top, parse_stack_top]
  repeat' (first
    | with_reducible exact tt_to
    | with_reducible refine lit_t2 ?_
    | simp -implicitDefEqProofs only [go_sem, start, startE, resVs, resV, resC, allV, retK, Nat.reduceBEq, Nat.reduceAdd, Nat.reduceMul, Nat.reduceLeDiff, Nat.reduceEqDiff, Nat.reduceBNe, Nat.ble_eq, UInt8.reduceToNat, UInt32.reduceToNat])
theorem parse_stack_top_fe {s_0} {B0 : Nat} {s : Store} {r : NilP} (hB0 : s B0 = some (.cells [.sl false 1 s_0.b_.length (flat s_0.b_), .int .i64 s_0.at_, .bool s_0.last_, .sl true 1 0 []])) (h : parse_stack_top s_0 = some r) : FE Go.Proofs.Tryz.prog 137 [.ref B0 0] s [.nilp] s := parse_stack_top_fn hB0 ⟨r, h, rfl, rfl⟩
def parse_stack_next (s_0 : parse_stack) : Option (lex_Token × Int × parse_stack) :=
  bnd (lex_Next s_0.b_ s_0.at_ s_0.last_) fun r1 =>
  jn (
    if r1.2 == 0 then
      some (parse_stack.mk s_0.b_ r1.1.To s_0.last_)
    else
      some s_0) fun (o5 : parse_stack) =>
  some (r1.1, r1.2, o5)
def ir_parse_stack_next : IC :=
 (.seq (.reg none [i1 2 (.allocL [.int .i64 0, .int .i64 0, .int .i64 0, .int .i64 0, .int .i64 0, .str [], .sl true 4 0 [], .str []]),
 i1 3 (.mov false (.c (.int .i64 0)))] [0, 2])
 (.seq (.regT [4] 19 [mv 7 0,
 i1 8 (.nilCheck (.t 7)),
 i1 9 (.fieldAddr 0 (.t 8)),
 i1 10 (.loadR [.sl false 1 0 []] false (.t 9)),
 mv 11 0,
 i1 12 (.nilCheck (.t 11)),
 i1 13 (.fieldAddr 1 (.t 12)),
 i1 14 (.loadR [.int .i64 0] false (.t 13)),
 mv 15 0,
 i1 16 (.nilCheck (.t 15)),
 i1 17 (.fieldAddr 2 (.t 16)),
 i1 18 (.loadR [.bool false] false (.t 17)),
 i1 19 (.call 185 [(.t 10), (.t 14), (.t 18)]),
 i1 6 (.movT (.t 19)),
 i1 20 (.extract (.t 6) 0),
 i1 21 (.extract (.t 6) 1),
 i1 4 (.allocL [.int .i64 0, .int .i64 0, .int .i64 0, .int .i64 0, .int .i64 0, .str [], .sl true 4 0 [], .str []]),
 i0 (.store 8 (.t 4) (.t 20)),
 mv 5 21] [0, 2, 4, 5])
 (.join [(2, false), (4, false), (5, false)] (.seq (.reg none [mv 22 5,
 i1 23 (.bin .eql (.t 22) (.c (.int .i64 0)))] [0, 2, 4, 5, 23])
 (.cond (.t 23) (.reg none [mv 24 0,
 i1 25 (.fieldAddr 2 (.t 4)),
 i1 26 (.load 1 false (.t 25)),
 i1 27 (.nilCheck (.t 24)),
 i1 28 (.fieldAddr 1 (.t 27)),
 i0 (.store 1 (.t 28) (.t 26))] [2, 4, 5])
 .skip))
 (.seq (.reg none [i1 29 (.load 8 true (.t 4)),
 mv 30 5,
 i0 (.store 8 (.t 2) (.t 29)),
 mv 3 30] [2, 3])
 .ret))))
def res_parse_stack_next : List IRes := [⟨2, false, some (8, true)⟩, ⟨3, true, none⟩]
theorem is_parse_stack_next : fnIs Go.Proofs.Tryz.prog 135 31 res_parse_stack_next ir_parse_stack_next = true := by kernel_rfl
theorem parse_stack_next_fn {s_0} {B0 : Nat} {s : Store} {Q : List AV → Store → Prop} (hB0 : s B0 = some (.cells [.sl false 1 s_0.b_.length (flat s_0.b_), .int .i64 s_0.at_, .bool s_0.last_, .sl true 1 0 []])) : ok (parse_stack_next s_0) (fun r => Q [.agg [.int .i64 r.1.Kind, .int .i64 r.1.From, .int .i64 r.1.To, .int .i64 r.1.V.Kind, .int .i64 r.1.V.N, .str r.1.V.S.b, .sl false 4 r.1.V.L.length (flat r.1.V.L), .str r.1.S.b], .int .i64 r.2.1] (s.set B0 (.cells [.sl false 1 r.2.2.b_.length (flat r.2.2.b_), .int .i64 r.2.2.at_, .bool r.2.2.last_, .sl true 1 0 []]))) → FN Go.Proofs.Tryz.prog 135 [.ref B0 0] s Q := by
  have hS : s = (s.set B0 (.cells [.sl false 1 s_0.b_.length (flat s_0.b_), .int .i64 s_0.at_, .bool s_0.last_, .sl true 1 0 []])) := by simp only [set_eq' hB0]
  rw [hS]
  intro h
  refine FN.of (draw_ok mix) is_parse_stack_next rfl (Nat.le_of_ble_eq_true rfl) ?_
  revert h
  rw [ir_parse_stack_next, res_parse_stack_next, parse_stack_next]
  repeat' (first
    | ((with_reducible refine b_to ?_ ?_); exact rfl)
    | with_reducible refine call_to_q (fun _ (h : lex_Next s_0.b_ s_0.at_ s_0.last_ = some _) => lex_Next_fe h) (fun _ => rfl) (fun r1 => ?_)
    | ((with_reducible refine join_to (fun (o5 : parse_stack) => ⟨[(2, .loc [.int .i64 0, .int .i64 0, .int .i64 0, .int .i64 0, .int .i64 0, .str (Str.mk []).b, .sl true 4 0 [], .str (Str.mk []).b]), (4, .loc [.int .i64 r1.1.Kind, .int .i64 r1.1.From, .int .i64 r1.1.To, .int .i64 r1.1.V.Kind, .int .i64 r1.1.V.N, .str r1.1.V.S.b, .sl false 4 r1.1.V.L.length (flat r1.1.V.L), .str r1.1.S.b]), (5, .int .i64 r1.2)], [], (s.set B0 (.cells [.sl false 1 o5.b_.length (flat o5.b_), .int .i64 o5.at_, .bool o5.last_, .sl true 1 0 []]))⟩) (fun J => ?_) ?_); rotate_left; rintro o5)
    | simp -implicitDefEqProofs only [go_sem, start, startE, resVs, resV, resC, allV, retK, Nat.reduceBEq, Nat.reduceAdd, Nat.reduceMul, Nat.reduceLeDiff, Nat.reduceEqDiff, Nat.reduceBNe, Nat.ble_eq, UInt8.reduceToNat, UInt32.reduceToNat])
def parse_more (e_0 : Int) : Option (Int) :=
  if e_0 == 6 then
    some e_0
  else
    some 0
def ir_parse_more : IC :=
 (.seq (.reg none [i1 2 (.mov false (.c (.int .i64 0)))] [0])
 (.seq (.seq (.reg none [mv 3 0,
 i1 4 (.bin .eql (.t 3) (.c (.int .i64 6)))] [0, 4])
 (.cond (.t 4) (.seq (.reg none [mv 5 0,
 mv 2 5] [2])
 .ret)
 .skip))
 (.seq (.reg none [i1 2 (.mov false (.c (.int .i64 0)))] [2])
 .ret)))
def res_parse_more : List IRes := [⟨2, true, none⟩]
theorem is_parse_more : fnIs Go.Proofs.Tryz.prog 267 6 res_parse_more ir_parse_more = true := by kernel_rfl
theorem parse_more_fn {e_0} {s : Store} {Q : List AV → Store → Prop}  : ok (parse_more e_0) (fun r => Q [.int .i64 r] s) → FN Go.Proofs.Tryz.prog 267 [.int .i64 e_0] s Q := by
  intro h
  refine FN.of (draw_ok mix) is_parse_more rfl (Nat.le_of_ble_eq_true rfl) ?_
  revert h
  rw [ir_parse_more, res_parse_more, parse_more]
  repeat' (first
    | simp -implicitDefEqProofs only [go_sem, start, startE, resVs, resV, resC, allV, retK, Nat.reduceBEq, Nat.reduceAdd, Nat.reduceMul, Nat.reduceLeDiff, Nat.reduceEqDiff, Nat.reduceBNe, Nat.ble_eq, UInt8.reduceToNat, UInt32.reduceToNat])
theorem parse_more_fe {e_0} {s : Store} {r : Int}  (h : parse_more e_0 = some r) : FE Go.Proofs.Tryz.prog 267 [.int .i64 e_0] s [.int .i64 r] s := parse_more_fn  ⟨r, h, rfl, rfl⟩
def parse_stack_ref (s_0 : parse_stack) (v_1 : api_Value) : Option (api_Value × Int × parse_stack) :=
  bnd (lex_Next s_0.b_ s_0.at_ s_0.last_) fun r1 =>
  bnd (whenB (!(r1.2 != 0)) false (parse_whole r1.1)) fun r2 =>
  if (r1.2 != 0) || (!r2) then
    bnd (parse_more r1.2) fun r3 =>
    some (v_1, r3, s_0)
  else
    bnd (lex_Next s_0.b_ r1.1.To s_0.last_) fun r4 =>
    if ((r4.2 != 0) || (r4.1.Kind != 6)) || (!(r4.1.S.b == (Str.mk [82]).b)) then
      bnd (parse_more r4.2) fun r5 =>
      some (v_1, r5, s_0)
    else
      if ((decide (v_1.N < 1)) || (decide (v_1.N > 4096))) || (r1.1.V.N != 0) then
        some (v_1, 26, s_0)
      else
        some ((api_Value.mk 8 v_1.N (Str.mk []) ([] : List api_Value)), 0, (parse_stack.mk s_0.b_ r4.1.To s_0.last_))
def ir_parse_stack_ref : IC :=
 (.seq (.reg none [i1 3 (.boxL 4 (.t 1)),
 i1 4 (.allocL [.int .i64 0, .int .i64 0, .str [], .sl true 4 0 []]),
 i1 5 (.mov false (.c (.int .i64 0)))] [0, 3, 4])
 (.seq (.regT [6] 19 [mv 10 0,
 i1 11 (.nilCheck (.t 10)),
 i1 12 (.fieldAddr 0 (.t 11)),
 i1 13 (.loadR [.sl false 1 0 []] false (.t 12)),
 mv 14 0,
 i1 15 (.nilCheck (.t 14)),
 i1 16 (.fieldAddr 1 (.t 15)),
 i1 17 (.loadR [.int .i64 0] false (.t 16)),
 mv 18 0,
 i1 19 (.nilCheck (.t 18)),
 i1 20 (.fieldAddr 2 (.t 19)),
 i1 21 (.loadR [.bool false] false (.t 20)),
 i1 22 (.call 185 [(.t 13), (.t 17), (.t 21)]),
 i1 9 (.movT (.t 22)),
 i1 23 (.extract (.t 9) 0),
 i1 24 (.extract (.t 9) 1),
 i1 6 (.allocL [.int .i64 0, .int .i64 0, .int .i64 0, .int .i64 0, .int .i64 0, .str [], .sl true 4 0 [], .str []]),
 i0 (.store 8 (.t 6) (.t 23)),
 mv 7 24] [0, 3, 4, 6, 7])
 (.seq (.seq (.reg (some 5) [mv 25 7,
 i1 26 (.bin .neq (.t 25) (.c (.int .i64 0))),
 mv 27 26,
 i1g 28 27 false (.load 8 true (.t 6)),
 i1g 29 27 false (.call 183 [(.t 28)]),
 i1g 30 27 false (.un .not (.t 29)),
 i1 31 (.pick (.t 27) (.c (.bool true)) (.t 30))] [0, 3, 4, 6, 7, 31])
 (.cond (.t 31) (.seq (.reg (some 3) [i1 32 (.load 4 true (.t 3)),
 mv 33 7,
 i1 34 (.call 267 [(.t 33)]),
 i0 (.store 4 (.t 4) (.t 32)),
 mv 5 34] [4, 5])
 .ret)
 .skip))
 (.seq (.regT [8] 17 [mv 36 0,
 i1 37 (.nilCheck (.t 36)),
 i1 38 (.fieldAddr 0 (.t 37)),
 i1 39 (.loadR [.sl false 1 0 []] false (.t 38)),
 i1 40 (.fieldAddr 2 (.t 6)),
 i1 41 (.load 1 false (.t 40)),
 mv 42 0,
 i1 43 (.nilCheck (.t 42)),
 i1 44 (.fieldAddr 2 (.t 43)),
 i1 45 (.loadR [.bool false] false (.t 44)),
 i1 46 (.call 185 [(.t 39), (.t 41), (.t 45)]),
 i1 35 (.movT (.t 46)),
 i1 47 (.extract (.t 35) 0),
 i1 48 (.extract (.t 35) 1),
 i1 8 (.allocL [.int .i64 0, .int .i64 0, .int .i64 0, .int .i64 0, .int .i64 0, .str [], .sl true 4 0 [], .str []]),
 i0 (.store 8 (.t 8) (.t 47)),
 mv 7 48] [0, 3, 4, 6, 7, 8])
 (.seq (.seq (.reg none [mv 49 7,
 i1 50 (.bin .neq (.t 49) (.c (.int .i64 0))),
 mv 51 50,
 i1g 52 51 false (.fieldAddr 0 (.t 8)),
 i1g 53 51 false (.load 1 false (.t 52)),
 i1g 54 51 false (.bin .neq (.t 53) (.c (.int .i64 6))),
 i1 55 (.pick (.t 51) (.c (.bool true)) (.t 54)),
 mv 56 55,
 i1g 57 56 false (.fieldAddr 7 (.t 8)),
 i1g 58 56 false (.load 1 false (.t 57)),
 i1g 59 56 false (.bin .neq (.t 58) (.c (.str [82]))),
 i1 60 (.pick (.t 56) (.c (.bool true)) (.t 59))] [0, 3, 4, 6, 7, 8, 60])
 (.cond (.t 60) (.seq (.reg (some 3) [i1 61 (.load 4 true (.t 3)),
 mv 62 7,
 i1 63 (.call 267 [(.t 62)]),
 i0 (.store 4 (.t 4) (.t 61)),
 mv 5 63] [4, 5])
 .ret)
 .skip))
 (.seq (.seq (.reg none [i1 64 (.fieldAddr 1 (.t 3)),
 i1 65 (.load 1 false (.t 64)),
 i1 66 (.bin .lss (.t 65) (.c (.int .i64 1))),
 mv 67 66,
 i1g 68 67 false (.fieldAddr 1 (.t 3)),
 i1g 69 67 false (.load 1 false (.t 68)),
 i1g 70 67 false (.bin .gtr (.t 69) (.c (.int .i64 4096))),
 i1 71 (.pick (.t 67) (.c (.bool true)) (.t 70)),
 mv 72 71,
 i1g 73 72 false (.fieldAddr 3 (.t 6)),
 i1g 74 72 false (.fieldAddr 1 (.t 73)),
 i1g 75 72 false (.load 1 false (.t 74)),
 i1g 76 72 false (.bin .neq (.t 75) (.c (.int .i64 0))),
 i1 77 (.pick (.t 72) (.c (.bool true)) (.t 76))] [0, 3, 4, 8, 77])
 (.cond (.t 77) (.seq (.reg none [i1 78 (.load 4 true (.t 3)),
 i0 (.store 4 (.t 4) (.t 78)),
 i1 5 (.mov false (.c (.int .i64 26)))] [4, 5])
 .ret)
 .skip))
 (.seq (.reg none [mv 79 0,
 i1 80 (.fieldAddr 2 (.t 8)),
 i1 81 (.load 1 false (.t 80)),
 i1 82 (.nilCheck (.t 79)),
 i1 83 (.fieldAddr 1 (.t 82)),
 i0 (.store 1 (.t 83) (.t 81))] [3, 4])
 (.seq (.reg none [i1 84 (.fieldAddr 1 (.t 3)),
 i1 85 (.load 1 false (.t 84)),
 i1 86 (.build [.int .i64 0, .int .i64 0, .str [], .sl true 4 0 []] [(0, 1, (.c (.int .i64 8))), (1, 1, (.t 85))]),
 i0 (.store 4 (.t 4) (.t 86)),
 i1 5 (.mov false (.c (.int .i64 0)))] [4, 5])
 .ret))))))))
def res_parse_stack_ref : List IRes := [⟨4, false, some (4, true)⟩, ⟨5, true, none⟩]
theorem is_parse_stack_ref : fnIs Go.Proofs.Tryz.prog 230 87 res_parse_stack_ref ir_parse_stack_ref = true := by kernel_rfl
theorem parse_stack_ref_fn {s_0 v_1} {B0 : Nat} {s : Store} {Q : List AV → Store → Prop} (hB0 : s B0 = some (.cells [.sl false 1 s_0.b_.length (flat s_0.b_), .int .i64 s_0.at_, .bool s_0.last_, .sl true 1 0 []])) : ok (parse_stack_ref s_0 v_1) (fun r => Q [.agg [.int .i64 r.1.Kind, .int .i64 r.1.N, .str r.1.S.b, .sl false 4 r.1.L.length (flat r.1.L)], .int .i64 r.2.1] (s.set B0 (.cells [.sl false 1 r.2.2.b_.length (flat r.2.2.b_), .int .i64 r.2.2.at_, .bool r.2.2.last_, .sl true 1 0 []]))) → FN Go.Proofs.Tryz.prog 230 [.ref B0 0, .agg [.int .i64 v_1.Kind, .int .i64 v_1.N, .str v_1.S.b, .sl false 4 v_1.L.length (flat v_1.L)]] s Q := by
  have hS : s = (s.set B0 (.cells [.sl false 1 s_0.b_.length (flat s_0.b_), .int .i64 s_0.at_, .bool s_0.last_, .sl true 1 0 []])) := by simp only [set_eq' hB0]
  rw [hS]
  intro h
  refine FN.of (draw_ok mix) is_parse_stack_ref rfl (Nat.le_of_ble_eq_true rfl) ?_
  revert h
  rw [ir_parse_stack_ref, res_parse_stack_ref, parse_stack_ref]
  repeat' (first
    | with_reducible exact tt_to
    | ((with_reducible refine b_to ?_ ?_); exact rfl)
    | with_reducible refine and_to ?_ ?_
    | with_reducible refine im_to ?_
    | with_reducible refine call_to_q (fun _ (h : lex_Next s_0.b_ s_0.at_ s_0.last_ = some _) => lex_Next_fe h) (fun _ => rfl) (fun r1 => ?_)
    | with_reducible refine call_to_g rfl (fun _ (h : parse_whole r1.1 = some _) => parse_whole_fe h) (fun _ => rfl) (fun r2 => ?_)
    | with_reducible refine call_to_q (fun _ (h : parse_more r1.2 = some _) => parse_more_fe h) (fun _ => rfl) (fun r3 => ?_)
    | with_reducible refine call_to_q (fun _ (h : lex_Next s_0.b_ r1.1.To s_0.last_ = some _) => lex_Next_fe h) (fun _ => rfl) (fun r4 => ?_)
    | with_reducible refine call_to_q (fun _ (h : parse_more r4.2 = some _) => parse_more_fe h) (fun _ => rfl) (fun r5 => ?_)
    | simp -implicitDefEqProofs only [go_sem, start, startE, resVs, resV, resC, allV, retK, Nat.reduceBEq, Nat.reduceAdd, Nat.reduceMul, Nat.reduceLeDiff, Nat.reduceEqDiff, Nat.reduceBNe, Nat.ble_eq, UInt8.reduceToNat, UInt32.reduceToNat])
def parse_word (w_0 : Str) : Option (api_Value × Int) :=
  if w_0.b == (Str.mk [116, 114, 117, 101]).b then
    some ((api_Value.mk 1 1 (Str.mk []) ([] : List api_Value)), 0)
  else
    if w_0.b == (Str.mk [102, 97, 108, 115, 101]).b then
      some ((api_Value.mk 1 0 (Str.mk []) ([] : List api_Value)), 0)
    else
      if w_0.b == (Str.mk [110, 117, 108, 108]).b then
        some ((api_Value.mk 0 0 (Str.mk []) ([] : List api_Value)), 0)
      else
        some ((api_Value.mk 0 0 (Str.mk []) ([] : List api_Value)), 11)
def ir_parse_word : IC :=
 (.seq (.reg none [i1 2 (.allocL [.int .i64 0, .int .i64 0, .str [], .sl true 4 0 []]),
 i1 3 (.mov false (.c (.int .i64 0)))] [0, 2])
 (.seq (.seq (.reg none [mv 4 0] [2, 4])
 (.block 0 (.seq (.reg none [i1 6 (.bin .eql (.t 4) (.c (.str [116, 114, 117, 101]))),
 mv 5 6] [2, 4, 5])
 (.cond (.t 5) (.seq (.reg none [i1 7 (.build [.int .i64 0, .int .i64 0, .str [], .sl true 4 0 []] [(0, 1, (.c (.int .i64 1))), (1, 1, (.c (.int .i64 1)))]),
 i0 (.store 4 (.t 2) (.t 7)),
 i1 3 (.mov false (.c (.int .i64 0)))] [2, 3])
 .ret)
 (.seq (.reg none [i1 9 (.bin .eql (.t 4) (.c (.str [102, 97, 108, 115, 101]))),
 mv 8 9] [2, 4, 8])
 (.cond (.t 8) (.seq (.reg none [i1 10 (.build [.int .i64 0, .int .i64 0, .str [], .sl true 4 0 []] [(0, 1, (.c (.int .i64 1)))]),
 i0 (.store 4 (.t 2) (.t 10)),
 i1 3 (.mov false (.c (.int .i64 0)))] [2, 3])
 .ret)
 (.seq (.reg none [i1 12 (.bin .eql (.t 4) (.c (.str [110, 117, 108, 108]))),
 mv 11 12] [2, 11])
 (.cond (.t 11) (.seq (.reg none [i1 13 (.build [.int .i64 0, .int .i64 0, .str [], .sl true 4 0 []] []),
 i0 (.store 4 (.t 2) (.t 13)),
 i1 3 (.mov false (.c (.int .i64 0)))] [2, 3])
 .ret)
 .skip))))))))
 (.seq (.reg none [i1 14 (.build [.int .i64 0, .int .i64 0, .str [], .sl true 4 0 []] []),
 i0 (.store 4 (.t 2) (.t 14)),
 i1 3 (.mov false (.c (.int .i64 11)))] [2, 3])
 .ret)))
def res_parse_word : List IRes := [⟨2, false, some (4, true)⟩, ⟨3, true, none⟩]
theorem is_parse_word : fnIs Go.Proofs.Tryz.prog 229 15 res_parse_word ir_parse_word = true := by kernel_rfl
theorem parse_word_fn {w_0} {s : Store} {Q : List AV → Store → Prop}  : ok (parse_word w_0) (fun r => Q [.agg [.int .i64 r.1.Kind, .int .i64 r.1.N, .str r.1.S.b, .sl false 4 r.1.L.length (flat r.1.L)], .int .i64 r.2] s) → FN Go.Proofs.Tryz.prog 229 [.str w_0.b] s Q := by
  intro h
  refine FN.of (draw_ok mix) is_parse_word rfl (Nat.le_of_ble_eq_true rfl) ?_
  revert h
  rw [ir_parse_word, res_parse_word, parse_word]
  repeat' (first
    | simp -implicitDefEqProofs only [go_sem, start, startE, resVs, resV, resC, allV, retK, Nat.reduceBEq, Nat.reduceAdd, Nat.reduceMul, Nat.reduceLeDiff, Nat.reduceEqDiff, Nat.reduceBNe, Nat.ble_eq, UInt8.reduceToNat, UInt32.reduceToNat])
theorem parse_word_fe {w_0} {s : Store} {r : api_Value × Int}  (h : parse_word w_0 = some r) : FE Go.Proofs.Tryz.prog 229 [.str w_0.b] s [.agg [.int .i64 r.1.Kind, .int .i64 r.1.N, .str r.1.S.b, .sl false 4 r.1.L.length (flat r.1.L)], .int .i64 r.2] s := parse_word_fn  ⟨r, h, rfl, rfl⟩
def parse_stack_single (s_0 : parse_stack) (t_1 : lex_Token) : Option (api_Value × Int × parse_stack) :=
  bnd (parse_stack_top s_0) fun r1 =>
  if t_1.Kind == 6 then
    bnd (parse_word t_1.S) fun r2 =>
    some (r2.1, r2.2, s_0)
  else
    bnd (parse_whole t_1) fun r3 =>
    if r3 then
      bnd (parse_stack_ref s_0 t_1.V) fun r4 =>
      some (r4.1, r4.2.1, r4.2.2)
    else
      some (t_1.V, 0, s_0)
def ir_parse_stack_single : IC :=
 (.seq (.reg none [i1 3 (.boxL 8 (.t 1)),
 i1 4 (.allocL [.int .i64 0, .int .i64 0, .str [], .sl true 4 0 []]),
 i1 5 (.mov false (.c (.int .i64 0)))] [0, 3, 4])
 (.seq (.seq (.reg none [mv 7 0,
 i1 8 (.call 137 [(.t 7)]),
 mv 6 8] [0, 3, 4, 6])
 (.seq (.reg (some 5) [mv 9 6,
 i1 10 (.eqP true (.t 9) (.c (.nilp))),
 mv 11 10,
 mvg 12 6 11 true,
 i1g 13 11 true (.call 227 [(.t 12)]),
 i1 14 (.pick (.t 11) (.t 13) (.c (.bool false))),
 mv 15 14,
 i1g 16 15 true (.fieldAddr 0 (.t 3)),
 i1g 17 15 true (.load 1 false (.t 16)),
 i1g 18 15 true (.bin .neq (.t 17) (.c (.int .i64 1))),
 mvg 19 18 15 true,
 i1g 20 19 false (.fieldAddr 3 (.t 3)),
 i1g 21 19 false (.fieldAddr 0 (.t 20)),
 i1g 22 19 false (.load 1 false (.t 21)),
 i1g 23 19 false (.bin .neq (.t 22) (.c (.int .i64 5))),
 i1g 24 15 true (.pick (.t 19) (.c (.bool true)) (.t 23)),
 i1 25 (.pick (.t 15) (.t 24) (.c (.bool false)))] [0, 3, 4, 25])
 (.cond (.t 25) (.seq (.reg none [i1 26 (.build [.int .i64 0, .int .i64 0, .str [], .sl true 4 0 []] []),
 i0 (.store 4 (.t 4) (.t 26)),
 i1 5 (.mov false (.c (.int .i64 11)))] [4, 5])
 .ret)
 .skip)))
 (.seq (.block 0 (.seq (.reg none [i1 28 (.fieldAddr 0 (.t 3)),
 i1 29 (.load 1 false (.t 28)),
 i1 30 (.bin .eql (.t 29) (.c (.int .i64 6))),
 mv 27 30] [0, 3, 4, 27])
 (.cond (.t 27) (.seq (.reg none [i1 31 (.fieldAddr 7 (.t 3)),
 i1 32 (.load 1 false (.t 31)),
 i1 33 (.call 229 [(.t 32)]),
 i1 34 (.extract (.t 33) 0),
 i1 35 (.extract (.t 33) 1),
 i0 (.store 4 (.t 4) (.t 34)),
 mv 5 35] [4, 5])
 .ret)
 (.seq (.reg none [i1 37 (.load 8 true (.t 3)),
 i1 38 (.call 183 [(.t 37)]),
 mv 36 38] [0, 3, 4, 36])
 (.cond (.t 36) (.seq (.reg none [mv 39 0,
 i1 40 (.fieldAddr 3 (.t 3)),
 i1 41 (.load 4 true (.t 40)),
 i1 42 (.call 230 [(.t 39), (.t 41)]),
 i1 43 (.extract (.t 42) 0),
 i1 44 (.extract (.t 42) 1),
 i0 (.store 4 (.t 4) (.t 43)),
 mv 5 44] [4, 5])
 .ret)
 .skip)))))
 (.seq (.reg none [i1 45 (.fieldAddr 3 (.t 3)),
 i1 46 (.load 4 true (.t 45)),
 i0 (.store 4 (.t 4) (.t 46)),
 i1 5 (.mov false (.c (.int .i64 0)))] [4, 5])
 .ret))))
def res_parse_stack_single : List IRes := [⟨4, false, some (4, true)⟩, ⟨5, true, none⟩]
theorem is_parse_stack_single : fnIs Go.Proofs.Tryz.prog 188 47 res_parse_stack_single ir_parse_stack_single = true := by kernel_rfl
theorem parse_stack_single_fn {s_0 t_1} {B0 : Nat} {s : Store} {Q : List AV → Store → Prop} (hB0 : s B0 = some (.cells [.sl false 1 s_0.b_.length (flat s_0.b_), .int .i64 s_0.at_, .bool s_0.last_, .sl true 1 0 []])) : ok (parse_stack_single s_0 t_1) (fun r => Q [.agg [.int .i64 r.1.Kind, .int .i64 r.1.N, .str r.1.S.b, .sl false 4 r.1.L.length (flat r.1.L)], .int .i64 r.2.1] (s.set B0 (.cells [.sl false 1 r.2.2.b_.length (flat r.2.2.b_), .int .i64 r.2.2.at_, .bool r.2.2.last_, .sl true 1 0 []]))) → FN Go.Proofs.Tryz.prog 188 [.ref B0 0, .agg [.int .i64 t_1.Kind, .int .i64 t_1.From, .int .i64 t_1.To, .int .i64 t_1.V.Kind, .int .i64 t_1.V.N, .str t_1.V.S.b, .sl false 4 t_1.V.L.length (flat t_1.V.L), .str t_1.S.b]] s Q := by
  have hS : s = (s.set B0 (.cells [.sl false 1 s_0.b_.length (flat s_0.b_), .int .i64 s_0.at_, .bool s_0.last_, .sl true 1 0 []])) := by simp only [set_eq' hB0]
  rw [hS]
  intro h
  refine FN.of (draw_ok mix) is_parse_stack_single rfl (Nat.le_of_ble_eq_true rfl) ?_
  revert h
  rw [ir_parse_stack_single, res_parse_stack_single, parse_stack_single]
  repeat' (first
    | with_reducible exact tt_to
    | with_reducible refine lit_y ?_
    | with_reducible refine lit_y2 ?_
    | with_reducible refine lit_z ?_
    | with_reducible refine and_to ?_ ?_
    | with_reducible refine im_to ?_
    | with_reducible refine call_to (fun _ (h : parse_stack_top s_0 = some _) => parse_stack_top_fe (B0 := B0) (by simp -implicitDefEqProofs only [go_sem, start, startE, resVs, resV, resC, allV, retK, Nat.reduceBEq, Nat.reduceAdd, Nat.reduceMul, Nat.reduceLeDiff, Nat.reduceEqDiff, Nat.reduceBNe, Nat.ble_eq, UInt8.reduceToNat, UInt32.reduceToNat] <;> simp only [encM_nil])   h) (fun r1 => ?_)
    | with_reducible refine call_to (fun _ (h : parse_word t_1.S = some _) => parse_word_fe h) (fun r2 => ?_)
    | with_reducible refine call_to (fun _ (h : parse_whole t_1 = some _) => parse_whole_fe h) (fun r3 => ?_)
    | with_reducible refine fun hh => parse_stack_ref_fn (B0 := B0) (by simp -implicitDefEqProofs only [go_sem, start, startE, resVs, resV, resC, allV, retK, Nat.reduceBEq, Nat.reduceAdd, Nat.reduceMul, Nat.reduceLeDiff, Nat.reduceEqDiff, Nat.reduceBNe, Nat.ble_eq, UInt8.reduceToNat, UInt32.reduceToNat] <;> simp only [encM_nil])   (ok_mono (show ok (parse_stack_ref s_0 t_1.V) _ from hh) fun r4 => ?_)
    | simp -implicitDefEqProofs only [go_sem, start, startE, resVs, resV, resC, allV, retK, Nat.reduceBEq, Nat.reduceAdd, Nat.reduceMul, Nat.reduceLeDiff, Nat.reduceEqDiff, Nat.reduceBNe, Nat.ble_eq, UInt8.reduceToNat, UInt32.reduceToNat])
def parse_stack_begin (s_0 : parse_stack) (x_1 : Bool) : Option (Int × parse_stack) := none
theorem parse_stack_begin_fn {s_0 : parse_stack} {x_1 : Bool} {B0 : Nat} {s : Store} {Q : List AV → Store → Prop} (hB0 : s B0 = some (.cells [.sl false 1 s_0.b_.length (flat s_0.b_), .int .i64 s_0.at_, .bool s_0.last_, .sl true 1 0 []])) : ok (parse_stack_begin s_0 x_1) (fun r => Q [.int .i64 r.1] (s.set B0 (.cells [.sl false 1 r.2.b_.length (flat r.2.b_), .int .i64 r.2.at_, .bool r.2.last_, .sl true 1 0 []]))) → FN Go.Proofs.Tryz.prog 186 [.ref B0 0, .bool x_1] s Q := fun ⟨_, h, _⟩ => by cases h
def parse_stack_end (s_0 : parse_stack) (x_1 : Bool) : Option (api_Value × Int × parse_stack) := none
theorem parse_stack_end_fn {s_0 : parse_stack} {x_1 : Bool} {B0 : Nat} {s : Store} {Q : List AV → Store → Prop} (hB0 : s B0 = some (.cells [.sl false 1 s_0.b_.length (flat s_0.b_), .int .i64 s_0.at_, .bool s_0.last_, .sl true 1 0 []])) : ok (parse_stack_end s_0 x_1) (fun r => Q [.agg [.int .i64 r.1.Kind, .int .i64 r.1.N, .str r.1.S.b, .sl false 4 r.1.L.length (flat r.1.L)], .int .i64 r.2.1] (s.set B0 (.cells [.sl false 1 r.2.2.b_.length (flat r.2.2.b_), .int .i64 r.2.2.at_, .bool r.2.2.last_, .sl true 1 0 []]))) → FN Go.Proofs.Tryz.prog 187 [.ref B0 0, .bool x_1] s Q := fun ⟨_, h, _⟩ => by cases h
def parse_stack_step (s_0 : parse_stack) (t_1 : lex_Token) : Option (api_Value × Bool × Int × parse_stack) :=
  jnS (
    if t_1.Kind == 0 then
      some (.inr (false, (10 : Int), s_0))
    else
      jn (
        if t_1.Kind == 2 then
          some (t_1.Kind == 2)
        else
          some (t_1.Kind == 4)) fun (t13 : Bool) =>
      if t13 then
        bnd (parse_stack_begin s_0 (t_1.Kind == 4)) fun r15 =>
        some (.inr (false, r15.1, r15.2))
      else
        jn (
          if t_1.Kind == 3 then
            some (t_1.Kind == 3)
          else
            some (t_1.Kind == 5)) fun (t19 : Bool) =>
        if t19 then
          bnd (parse_stack_end s_0 (t_1.Kind == 5)) fun r21 =>
          some (.inl (r21.1, r21.2.1, r21.2.2))
        else
          bnd (parse_stack_single s_0 t_1) fun r22 =>
          some (.inl (r22.1, r22.2.1, r22.2.2))) (fun ((v2, e3, o4) : api_Value × Int × parse_stack) =>
    some (v2, e3 == 0, e3, o4))
  (fun ((t6, t7, o8) : Bool × Int × parse_stack) => some ((api_Value.mk 0 0 (Str.mk []) ([] : List api_Value)), t6, t7, o8))
def ir_parse_stack_step : IC :=
 (.seq (.reg none [i1 3 (.boxL 8 (.t 1)),
 i1 4 (.allocL [.int .i64 0, .int .i64 0, .str [], .sl true 4 0 []]),
 i1 5 (.mov false (.c (.bool false))),
 i1 6 (.mov false (.c (.int .i64 0)))] [0, 3, 4])
 (.seq (.reg none [i1 7 (.allocL [.int .i64 0, .int .i64 0, .str [], .sl true 4 0 []])] [0, 3, 4, 7])
 (.seq (.reg none [i1 8 (.mov false (.c (.int .i64 0)))] [0, 3, 4, 7])
 (.join [(4, false), (7, false), (8, false)] (.seq (.reg none [i1 9 (.fieldAddr 0 (.t 3)),
 i1 10 (.load 1 false (.t 9))] [0, 3, 4, 7, 10])
 (.block 0 (.seq (.reg none [i1 28 (.bin .eql (.t 10) (.c (.int .i64 0))),
 mv 27 28] [0, 3, 4, 7, 10, 27])
 (.cond (.t 27) (.seq (.reg none [i1 29 (.load 4 true (.t 7)),
 i0 (.store 4 (.t 4) (.t 29)),
 i1 5 (.mov false (.c (.bool false))),
 i1 6 (.mov false (.c (.int .i64 10)))] [4, 5, 6])
 .ret)
 (.join [(0, false), (3, false), (4, false), (7, false), (10, false), (30, false)] (.seq (.reg none [i1 31 (.bin .eql (.t 10) (.c (.int .i64 2))),
 mv 30 31] [0, 3, 4, 7, 10, 30])
 (.cond (.t 30) .skip
 (.reg none [i1 32 (.bin .eql (.t 10) (.c (.int .i64 4))),
 mv 30 32] [0, 3, 4, 7, 10, 30])))
 (.cond (.t 30) (.seq (.regB [4] [(1, 0, i1 33 (.load 4 true (.t 7))),
 (0, 1, mv 34 0),
 (0, 2, i1 35 (.fieldAddr 0 (.t 3))),
 (0, 3, i1 36 (.load 1 false (.t 35))),
 (0, 4, i1 37 (.bin .eql (.t 36) (.c (.int .i64 4)))),
 (2, 5, i1 38 (.call 186 [(.t 34), (.t 37)])),
 (0, 6, i0 (.store 4 (.t 4) (.t 33))),
 (0, 7, i1 5 (.mov false (.c (.bool false)))),
 (0, 8, mv 6 38)] [4, 5, 6])
 .ret)
 (.join [(0, false), (3, false), (4, false), (7, false), (39, false)] (.seq (.reg none [i1 40 (.bin .eql (.t 10) (.c (.int .i64 3))),
 mv 39 40] [0, 3, 4, 7, 10, 39])
 (.cond (.t 39) .skip
 (.reg none [i1 41 (.bin .eql (.t 10) (.c (.int .i64 5))),
 mv 39 41] [0, 3, 4, 7, 39])))
 (.cond (.t 39) (.reg none [mv 43 0,
 i1 44 (.fieldAddr 0 (.t 3)),
 i1 45 (.load 1 false (.t 44)),
 i1 46 (.bin .eql (.t 45) (.c (.int .i64 5))),
 i1 47 (.call 187 [(.t 43), (.t 46)]),
 i1 42 (.movT (.t 47)),
 i1 48 (.extract (.t 42) 0),
 i1 49 (.extract (.t 42) 1),
 i0 (.store 4 (.t 7) (.t 48)),
 mv 8 49] [4, 7, 8])
 (.seq (.reg none [mv 12 0,
 i1 13 (.load 8 true (.t 3)),
 i1 14 (.call 188 [(.t 12), (.t 13)]),
 i1 11 (.movT (.t 14)),
 i1 15 (.extract (.t 11) 0),
 i1 16 (.extract (.t 11) 1),
 i0 (.store 4 (.t 7) (.t 15)),
 mv 8 16] [0, 4, 7, 8])
 (.seq (.reg none [mv 17 8,
 i1 18 (.bin .eql (.t 17) (.c (.int .i64 0))),
 mv 19 18,
 mvg 20 0 19 true,
 i1g 21 19 true (.nilCheck (.t 20)),
 i1g 22 19 true (.fieldAddr 3 (.t 21)),
 i1g 23 19 true (.loadR [.sl false 1 0 []] false (.t 22)),
 i1g 24 19 true (.len 0 (.t 23)),
 i1g 25 19 true (.bin .geq (.t 24) (.c (.int .i64 64))),
 i1 26 (.pick (.t 19) (.t 25) (.c (.bool false)))] [4, 7, 8, 26])
 (.cond (.t 26) (.reg none [i1 8 (.mov false (.c (.int .i64 15)))] [4, 7, 8])
 .skip)))))))))))
 (.seq (.reg none [i1 50 (.load 4 true (.t 7)),
 mv 51 8,
 i1 52 (.bin .eql (.t 51) (.c (.int .i64 0))),
 mv 53 8,
 i0 (.store 4 (.t 4) (.t 50)),
 mv 5 52,
 mv 6 53] [4, 5, 6])
 .ret)))))
def res_parse_stack_step : List IRes := [⟨4, false, some (4, true)⟩, ⟨5, true, none⟩, ⟨6, true, none⟩]
theorem is_parse_stack_step : fnIs Go.Proofs.Tryz.prog 136 54 res_parse_stack_step ir_parse_stack_step = true := by kernel_rfl
theorem parse_stack_step_fn {s_0 t_1} {B0 : Nat} {s : Store} {Q : List AV → Store → Prop} (hB0 : s B0 = some (.cells [.sl false 1 s_0.b_.length (flat s_0.b_), .int .i64 s_0.at_, .bool s_0.last_, .sl true 1 0 []])) : ok (parse_stack_step s_0 t_1) (fun r => Q [.agg [.int .i64 r.1.Kind, .int .i64 r.1.N, .str r.1.S.b, .sl false 4 r.1.L.length (flat r.1.L)], .bool r.2.1, .int .i64 r.2.2.1] (s.set B0 (.cells [.sl false 1 r.2.2.2.b_.length (flat r.2.2.2.b_), .int .i64 r.2.2.2.at_, .bool r.2.2.2.last_, .sl true 1 0 []]))) → FN Go.Proofs.Tryz.prog 136 [.ref B0 0, .agg [.int .i64 t_1.Kind, .int .i64 t_1.From, .int .i64 t_1.To, .int .i64 t_1.V.Kind, .int .i64 t_1.V.N, .str t_1.V.S.b, .sl false 4 t_1.V.L.length (flat t_1.V.L), .str t_1.S.b]] s Q := by
  have hS : s = (s.set B0 (.cells [.sl false 1 s_0.b_.length (flat s_0.b_), .int .i64 s_0.at_, .bool s_0.last_, .sl true 1 0 []])) := by simp only [set_eq' hB0]
  rw [hS]
  intro h
  refine FN.of (draw_ok mix) is_parse_stack_step rfl (Nat.le_of_ble_eq_true rfl) ?_
  revert h
  rw [ir_parse_stack_step, res_parse_stack_step, parse_stack_step]
  repeat' (first
    | with_reducible exact tt_to
    | with_reducible refine lit_y ?_
    | with_reducible refine lit_y2 ?_
    | with_reducible refine and_to ?_ ?_
    | with_reducible refine im_to ?_
    | with_reducible refine fun hh => parse_stack_begin_fn (B0 := B0) (by simp -implicitDefEqProofs only [go_sem, start, startE, resVs, resV, resC, allV, retK, Nat.reduceBEq, Nat.reduceAdd, Nat.reduceMul, Nat.reduceLeDiff, Nat.reduceEqDiff, Nat.reduceBNe, Nat.ble_eq, UInt8.reduceToNat, UInt32.reduceToNat] <;> simp only [encM_nil])   (ok_mono (show ok (parse_stack_begin s_0 (t_1.Kind == 4)) _ from hh) fun r15 => ?_)
    | with_reducible refine fun hh => parse_stack_end_fn (B0 := B0) (by simp -implicitDefEqProofs only [go_sem, start, startE, resVs, resV, resC, allV, retK, Nat.reduceBEq, Nat.reduceAdd, Nat.reduceMul, Nat.reduceLeDiff, Nat.reduceEqDiff, Nat.reduceBNe, Nat.ble_eq, UInt8.reduceToNat, UInt32.reduceToNat] <;> simp only [encM_nil])   (ok_mono (show ok (parse_stack_end s_0 (t_1.Kind == 5)) _ from hh) fun r21 => ?_)
    | with_reducible refine fun hh => parse_stack_single_fn (B0 := B0) (by simp -implicitDefEqProofs only [go_sem, start, startE, resVs, resV, resC, allV, retK, Nat.reduceBEq, Nat.reduceAdd, Nat.reduceMul, Nat.reduceLeDiff, Nat.reduceEqDiff, Nat.reduceBNe, Nat.ble_eq, UInt8.reduceToNat, UInt32.reduceToNat] <;> simp only [encM_nil])   (ok_mono (show ok (parse_stack_single s_0 t_1) _ from hh) fun r22 => ?_)
    | ((with_reducible refine join_to (live := [(0, false), (3, false), (4, false), (7, false), (10, false), (30, false)]) (fun (t13 : Bool) => ⟨[(0, .ref B0 0), (3, .loc [.int .i64 t_1.Kind, .int .i64 t_1.From, .int .i64 t_1.To, .int .i64 t_1.V.Kind, .int .i64 t_1.V.N, .str t_1.V.S.b, .sl false 4 t_1.V.L.length (flat t_1.V.L), .str t_1.S.b]), (4, .loc [.int .i64 0, .int .i64 0, .str (Str.mk []).b, .sl true 4 0 []]), (7, .loc [.int .i64 0, .int .i64 0, .str (Str.mk []).b, .sl true 4 0 []]), (10, .int .i64 t_1.Kind), (30, .bool t13)], [], (s.set B0 (.cells [.sl false 1 s_0.b_.length (flat s_0.b_), .int .i64 s_0.at_, .bool s_0.last_, .sl true 1 0 []]))⟩) (fun J => ?_) ?_); rotate_left; rintro t13)
    | ((with_reducible refine join_to (live := [(0, false), (3, false), (4, false), (7, false), (39, false)]) (fun (t19 : Bool) => ⟨[(0, .ref B0 0), (3, .loc [.int .i64 t_1.Kind, .int .i64 t_1.From, .int .i64 t_1.To, .int .i64 t_1.V.Kind, .int .i64 t_1.V.N, .str t_1.V.S.b, .sl false 4 t_1.V.L.length (flat t_1.V.L), .str t_1.S.b]), (4, .loc [.int .i64 0, .int .i64 0, .str (Str.mk []).b, .sl true 4 0 []]), (7, .loc [.int .i64 0, .int .i64 0, .str (Str.mk []).b, .sl true 4 0 []]), (39, .bool t19)], [], (s.set B0 (.cells [.sl false 1 s_0.b_.length (flat s_0.b_), .int .i64 s_0.at_, .bool s_0.last_, .sl true 1 0 []]))⟩) (fun J => ?_) ?_); rotate_left; rintro t19)
    | ((with_reducible refine join_toS (live := [(4, false), (7, false), (8, false)]) (fun ((v2, e3, o4) : api_Value × Int × parse_stack) => ⟨[(4, .loc [.int .i64 0, .int .i64 0, .str (Str.mk []).b, .sl true 4 0 []]), (7, .loc [.int .i64 v2.Kind, .int .i64 v2.N, .str v2.S.b, .sl false 4 v2.L.length (flat v2.L)]), (8, .int .i64 e3)], [], (s.set B0 (.cells [.sl false 1 o4.b_.length (flat o4.b_), .int .i64 o4.at_, .bool o4.last_, .sl true 1 0 []]))⟩) (fun J => ?_) ?_); rotate_left; rintro ⟨v2, e3, o4⟩)
    | simp -implicitDefEqProofs only [go_sem, start, startE, resVs, resV, resC, allV, retK, Nat.reduceBEq, Nat.reduceAdd, Nat.reduceMul, Nat.reduceLeDiff, Nat.reduceEqDiff, Nat.reduceBNe, Nat.ble_eq, UInt8.reduceToNat, UInt32.reduceToNat])
def parse_Value (b_0 : (List UInt8)) (at_1 : Int) (last_2 : Bool) : Option (api_Value × Int × Int) :=
  bnd (
    iter (fun (o1 : parse_stack) =>
      bnd (parse_stack_next o1) fun r6 =>
      if r6.2.1 != 0 then
        some (.inr ((api_Value.mk 0 0 (Str.mk []) ([] : List api_Value)), (0 : Int), r6.2.1, r6.2.2))
      else
        bnd (parse_stack_step r6.2.2 r6.1) fun r7 =>
        if r7.2.2.1 != 0 then
          some (.inr ((api_Value.mk 0 0 (Str.mk []) ([] : List api_Value)), (0 : Int), r7.2.2.1, r7.2.2.2))
        else
          if !r7.2.1 then
            some (.inl r7.2.2.2)
          else
            bnd (parse_stack_top r7.2.2.2) fun r8 =>
            some (.inr (r7.1, r7.2.2.2.at_, (0 : Int), r7.2.2.2))) (parse_stack.mk b_0 at_1 last_2)) fun ((t2, t3, t4, o5) : api_Value × Int × Int × parse_stack) =>
  some (t2, t3, t4)
def ir_parse_Value : IC :=
 (.seq (.reg none [i1 6 (.allocL [.int .i64 0, .int .i64 0, .str [], .sl true 4 0 []]),
 i1 7 (.mov false (.c (.int .i64 0))),
 i1 8 (.mov false (.c (.int .i64 0)))] [0, 1, 2, 6])
 (.scopeJ 0 [(6, false), (9, false)] (.reg none [mt 15 0,
 mv 16 1,
 mv 17 2,
 i1 18 (.build [.sl true 1 0 [], .int .i64 0, .bool false, .arr 0 0 0 0] [(0, 1, (.t 15)), (1, 1, (.t 16)), (2, 1, (.t 17))]),
 i1 19 (.boxN 1 4 (.t 18)),
 mv 9 19] [6, 9])
 .skip
 .skip
 (.seq (.reg none [mv 21 9,
 i1 22 (.call 135 [(.t 21)]),
 i1 20 (.movT (.t 22)),
 i1 23 (.extract (.t 20) 0),
 i1 24 (.extract (.t 20) 1),
 i1 10 (.allocL [.int .i64 0, .int .i64 0, .int .i64 0, .int .i64 0, .int .i64 0, .str [], .sl true 4 0 [], .str []]),
 i0 (.store 8 (.t 10) (.t 23)),
 mv 11 24] [6, 9, 10, 11])
 (.seq (.seq (.reg none [mv 25 11,
 i1 26 (.bin .neq (.t 25) (.c (.int .i64 0)))] [6, 9, 10, 11, 26])
 (.cond (.t 26) (.seq (.reg none [i1 27 (.build [.int .i64 0, .int .i64 0, .str [], .sl true 4 0 []] []),
 mv 28 11,
 i0 (.store 4 (.t 6) (.t 27)),
 i1 7 (.mov false (.c (.int .i64 0))),
 mv 8 28] [6, 7, 8])
 .ret)
 .skip))
 (.seq (.reg none [mv 30 9,
 i1 31 (.load 8 true (.t 10)),
 i1 32 (.call 136 [(.t 30), (.t 31)]),
 i1 29 (.movT (.t 32)),
 i1 33 (.extract (.t 29) 0),
 i1 34 (.extract (.t 29) 1),
 i1 35 (.extract (.t 29) 2),
 i1 12 (.allocL [.int .i64 0, .int .i64 0, .str [], .sl true 4 0 []]),
 i0 (.store 4 (.t 12) (.t 33)),
 mv 13 34,
 mv 11 35] [6, 9, 11, 12, 13])
 (.seq (.seq (.reg none [mv 36 11,
 i1 37 (.bin .neq (.t 36) (.c (.int .i64 0)))] [6, 9, 11, 12, 13, 37])
 (.cond (.t 37) (.seq (.reg none [i1 38 (.build [.int .i64 0, .int .i64 0, .str [], .sl true 4 0 []] []),
 mv 39 11,
 i0 (.store 4 (.t 6) (.t 38)),
 i1 7 (.mov false (.c (.int .i64 0))),
 mv 8 39] [6, 7, 8])
 .ret)
 .skip))
 (.seq (.seq (.reg none [mv 40 13,
 i1 41 (.un .not (.t 40))] [6, 9, 12, 41])
 (.cond (.t 41) (.goto 0)
 .skip))
 (.seq (.seq (.reg none [mv 42 9,
 i1 43 (.call 137 [(.t 42)]),
 mv 14 43] [6, 9, 12, 14])
 (.seq (.reg none [mv 44 14,
 i1 45 (.eqP true (.t 44) (.c (.nilp)))] [6, 9, 12, 14, 45])
 (.cond (.t 45) (.seq (.regX [[false, false, false, false, false, false, false, false, false, false, false, false, false], [true, false, false, false, false, false, false, false, false, false, false, false, false], [false, true, false, false, false, false, false, false, false, false, false, false, false], [false, false, true, false, false, false, false, false, false, false, false, false, false], [false, false, false, false, false, false, false, false, false, false, false, false, false], [false, false, false, true, false, false, false, false, false, false, false, false, false], [false, false, false, false, false, false, false, false, false, false, false, false, false], [true, true, true, true, true, true, true, false, false, false, false, false, false], [true, true, true, true, true, true, true, true, false, false, false, false, false], [true, true, true, true, true, true, true, true, true, false, false, false, false], [true, true, true, true, true, true, true, true, false, false, false, false, false], [true, true, true, true, true, true, true, true, false, false, true, false, false], [true, true, true, true, true, true, true, true, false, false, false, true, false]] [mv 46 14,
 i1 47 (.nilCheck (.t 46)),
 i1 48 (.fieldAddr 1 (.t 47)),
 i1 49 (.load 1 false (.t 48)),
 i1 50 (.load 4 true (.t 12)),
 i1 51 (.len 0 (.t 49)),
 i1 52 (.buildSl 4 1 [.int .i64 0, .int .i64 0, .str [], .sl true 4 0 []] [(0, 4, (.c (.agg [.int .i64 0, .int .i64 0, .str [], .sl true 4 0 []])))]),
 i1 53 (.append 4 56 (.t 49) (.t 52)),
 i1 54 (.indexAddr [.int .i64 0, .int .i64 0, .str [], .sl false 4 0 []] (.t 53) (.t 51)),
 i0 (.store 4 (.t 54) (.t 50)),
 i1 55 (.nilCheck (.t 46)),
 i1 56 (.fieldAddr 1 (.t 55)),
 i0 (.store 1 (.t 56) (.t 53))] [6, 9])
 (.goto 0))
 .skip)))
 (.seq (.regT [6] 8 [i1 57 (.load 4 true (.t 12)),
 mv 58 9,
 i1 59 (.nilCheck (.t 58)),
 i1 60 (.fieldAddr 1 (.t 59)),
 i1 61 (.loadR [.int .i64 0] false (.t 60)),
 i0 (.store 4 (.t 6) (.t 57)),
 mv 7 61,
 i1 8 (.mov false (.c (.int .i64 0)))] [6, 7, 8])
 .ret)))))))))
def res_parse_Value : List IRes := [⟨6, false, some (4, true)⟩, ⟨7, true, none⟩, ⟨8, true, none⟩]
theorem is_parse_Value : fnIs Go.Proofs.Tryz.prog 83 62 res_parse_Value ir_parse_Value = true := by kernel_rfl
set_option maxHeartbeats 8000000 in
theorem parse_Value_fn {b_0 at_1 last_2} {s : Store} {Q : List AV → Store → Prop}  : ok (parse_Value b_0 at_1 last_2) (fun r => Q [.agg [.int .i64 r.1.Kind, .int .i64 r.1.N, .str r.1.S.b, .sl false 4 r.1.L.length (flat r.1.L)], .int .i64 r.2.1, .int .i64 r.2.2] s) → FN Go.Proofs.Tryz.prog 83 [.sl false 1 b_0.length (flat b_0), .int .i64 at_1, .bool last_2] s Q := by
  intro h
  refine FN.forget ?_
  refine FN.of (draw_ok mix) is_parse_Value rfl (Nat.le_of_ble_eq_true rfl) ?_
  revert h
  rw [ir_parse_Value, res_parse_Value, parse_Value]
  repeat' (first
    | with_reducible exact tt_to
    | with_reducible refine lit_y ?_
    | with_reducible refine lit_y2 ?_
    | with_reducible refine and_to ?_ ?_
    | with_reducible refine im_to ?_
    | with_reducible refine fun hh => parse_stack_next_fn (B0 := N1) (by simp -implicitDefEqProofs only [go_sem, start, startE, resVs, resV, resC, allV, retK, Nat.reduceBEq, Nat.reduceAdd, Nat.reduceMul, Nat.reduceLeDiff, Nat.reduceEqDiff, Nat.reduceBNe, Nat.ble_eq, UInt8.reduceToNat, UInt32.reduceToNat] <;> simp only [encM_nil])   (ok_mono (show ok (parse_stack_next o1) _ from hh) fun r6 => ?_)
    | with_reducible refine fun hh => parse_stack_step_fn (B0 := N1) (by simp -implicitDefEqProofs only [go_sem, start, startE, resVs, resV, resC, allV, retK, Nat.reduceBEq, Nat.reduceAdd, Nat.reduceMul, Nat.reduceLeDiff, Nat.reduceEqDiff, Nat.reduceBNe, Nat.ble_eq, UInt8.reduceToNat, UInt32.reduceToNat] <;> simp only [encM_nil])   (ok_mono (show ok (parse_stack_step r6.2.2 r6.1) _ from hh) fun r7 => ?_)
    | with_reducible refine call_to (fun _ (h : parse_stack_top r7.2.2.2 = some _) => parse_stack_top_fe (B0 := N1) (by simp -implicitDefEqProofs only [go_sem, start, startE, resVs, resV, resC, allV, retK, Nat.reduceBEq, Nat.reduceAdd, Nat.reduceMul, Nat.reduceLeDiff, Nat.reduceEqDiff, Nat.reduceBNe, Nat.ble_eq, UInt8.reduceToNat, UInt32.reduceToNat] <;> simp only [encM_nil])   h) (fun r8 => ?_)
    | ((with_reducible refine jump_to (fun (o1 : parse_stack) => ⟨[(6, .loc [.int .i64 0, .int .i64 0, .str (Str.mk []).b, .sl true 4 0 []]), (9, .ref N1 0)], [], (s.set N1 (.cells [.sl false 1 o1.b_.length (flat o1.b_), .int .i64 o1.at_, .bool o1.last_, .sl true 1 0 []]))⟩) ?_ ?_); (first | exact rfl | simp -implicitDefEqProofs only [go_sem, start, startE, resVs, resV, resC, allV, retK, Nat.reduceBEq, Nat.reduceAdd, Nat.reduceMul, Nat.reduceLeDiff, Nat.reduceEqDiff, Nat.reduceBNe, Nat.ble_eq, UInt8.reduceToNat, UInt32.reduceToNat]); rintro J o1)
    | ((fail_if_success (have _x := sN1)); with_reducible intro hh N1 hN1; (try simp only [set_none] at hN1); have sN1 := hN1; revert hh)
    | with_reducible exact fun hh => ⟨_, SubS.set (SubS.refl _) (by simp [Store.set, sN1]), hh⟩
    | simp -implicitDefEqProofs only [go_sem, start, startE, resVs, resV, resC, allV, retK, Nat.reduceBEq, Nat.reduceAdd, Nat.reduceMul, Nat.reduceLeDiff, Nat.reduceEqDiff, Nat.reduceBNe, Nat.ble_eq, UInt8.reduceToNat, UInt32.reduceToNat])
theorem parse_Value_fe {b_0 at_1 last_2} {s : Store} {r : api_Value × Int × Int}  (h : parse_Value b_0 at_1 last_2 = some r) : FE Go.Proofs.Tryz.prog 83 [.sl false 1 b_0.length (flat b_0), .int .i64 at_1, .bool last_2] s [.agg [.int .i64 r.1.Kind, .int .i64 r.1.N, .str r.1.S.b, .sl false 4 r.1.L.length (flat r.1.L)], .int .i64 r.2.1, .int .i64 r.2.2] s := parse_Value_fn  ⟨r, h, rfl, rfl⟩
end Go.AB
end

section
set_option maxRecDepth 4000
namespace Go.AB
open Go
attribute [-go_sem] xwp_cons xwpK_eq xalt_cons xalt_nil
def parse_Word_1 (t_0 : lex_Token) (c_1 : Str) : Option (Bool) :=
  some ((t_0.Kind == 6) && (t_0.S.b == c_1.b))
def ir_parse_Word_1 : IC :=
 (.seq (.reg none [i1 2 (.boxL 8 (.t 0)),
 i1 3 (.mov false (.c (.bool false)))] [1, 2])
 (.seq (.reg none [i1 4 (.fieldAddr 0 (.t 2)),
 i1 5 (.load 1 false (.t 4)),
 i1 6 (.bin .eql (.t 5) (.c (.int .i64 6))),
 mv 7 6,
 i1g 8 7 true (.fieldAddr 7 (.t 2)),
 i1g 9 7 true (.load 1 false (.t 8)),
 i1g 10 7 true (.loadR [.str []] false (.t 1)),
 i1g 11 7 true (.bin .eql (.t 9) (.t 10)),
 i1 12 (.pick (.t 7) (.t 11) (.c (.bool false))),
 mv 3 12] [3])
 .ret))
def res_parse_Word_1 : List IRes := [⟨3, true, none⟩]
theorem is_parse_Word_1 : fnIs Go.Proofs.Tryz.prog 184 13 res_parse_Word_1 ir_parse_Word_1 = true := by kernel_rfl
theorem parse_Word_1_fn {t_0 c_1} {B1 : Nat} {s : Store} {Q : List AV → Store → Prop} (hB1 : s B1 = some (.cells [.str c_1.b])) : ok (parse_Word_1 t_0 c_1) (fun r => Q [.bool r] s) → FN Go.Proofs.Tryz.prog 184 [.agg [.int .i64 t_0.Kind, .int .i64 t_0.From, .int .i64 t_0.To, .int .i64 t_0.V.Kind, .int .i64 t_0.V.N, .str t_0.V.S.b, .sl false 4 t_0.V.L.length (flat t_0.V.L), .str t_0.S.b], .ref B1 0] s Q := by
  have hS : s = (s.set B1 (.cells [.str c_1.b])) := by simp only [set_eq' hB1]
  rw [hS]
  intro h
  refine FN.of (draw_ok mix) is_parse_Word_1 rfl (Nat.le_of_ble_eq_true rfl) ?_
  revert h
  rw [ir_parse_Word_1, res_parse_Word_1, parse_Word_1]
  repeat' (first
    | simp -implicitDefEqProofs only [go_sem, start, startE, resVs, resV, resC, allV, retK, Nat.reduceBEq, Nat.reduceAdd, Nat.reduceMul, Nat.reduceLeDiff, Nat.reduceEqDiff, Nat.reduceBNe, Nat.ble_eq, UInt8.reduceToNat, UInt32.reduceToNat])
theorem parse_Word_1_fe {t_0 c_1} {B1 : Nat} {s : Store} {r : Bool} (hB1 : s B1 = some (.cells [.str c_1.b])) (h : parse_Word_1 t_0 c_1 = some r) : FE Go.Proofs.Tryz.prog 184 [.agg [.int .i64 t_0.Kind, .int .i64 t_0.From, .int .i64 t_0.To, .int .i64 t_0.V.Kind, .int .i64 t_0.V.N, .str t_0.V.S.b, .sl false 4 t_0.V.L.length (flat t_0.V.L), .str t_0.S.b], .ref B1 0] s [.bool r] s := parse_Word_1_fn hB1 ⟨r, h, rfl, rfl⟩
def parse_oneW (b_0 : (List UInt8)) (at_1 : Int) (last_2 : Bool) (c3_0 : Str) : Option (lex_Token × Int) :=
  bnd (lex_Next b_0 at_1 last_2) fun r1 =>
  if r1.2 != 0 then
    some ((lex_Token.mk 0 0 0 (api_Value.mk 0 0 (Str.mk []) ([] : List api_Value)) (Str.mk [])), r1.2)
  else
    if r1.1.Kind == 0 then
      some ((lex_Token.mk 0 0 0 (api_Value.mk 0 0 (Str.mk []) ([] : List api_Value)) (Str.mk [])), 10)
    else
      bnd (parse_Word_1 r1.1 c3_0) fun r2 =>
      if !r2 then
        some ((lex_Token.mk 0 0 0 (api_Value.mk 0 0 (Str.mk []) ([] : List api_Value)) (Str.mk [])), 11)
      else
        some (r1.1, 0)
theorem fnok_184 : (fnOK Go.Proofs.Tryz.prog 184 = true) = True := eq_true (by kernel_rfl)
def ir_parse_oneW : IC :=
 (.seq (.reg none [i1 8 (.allocL [.int .i64 0, .int .i64 0, .int .i64 0, .int .i64 0, .int .i64 0, .str [], .sl true 4 0 [], .str []]),
 i1 9 (.mov false (.c (.int .i64 0)))] [0, 1, 2, 3, 8])
 (.seq (.reg none [mt 13 0,
 mv 14 1,
 mv 15 2,
 i1 16 (.call 185 [(.t 13), (.t 14), (.t 15)]),
 i1 12 (.movT (.t 16)),
 i1 17 (.extract (.t 12) 0),
 i1 18 (.extract (.t 12) 1),
 i1 10 (.allocL [.int .i64 0, .int .i64 0, .int .i64 0, .int .i64 0, .int .i64 0, .str [], .sl true 4 0 [], .str []]),
 i0 (.store 8 (.t 10) (.t 17)),
 mv 11 18] [3, 8, 10, 11])
 (.seq (.block 0 (.seq (.reg none [mv 20 11,
 i1 21 (.bin .neq (.t 20) (.c (.int .i64 0))),
 mv 19 21] [3, 8, 10, 11, 19])
 (.cond (.t 19) (.seq (.reg none [i1 22 (.build [.int .i64 0, .int .i64 0, .int .i64 0, .int .i64 0, .int .i64 0, .str [], .sl true 4 0 [], .str []] []),
 mv 23 11,
 i0 (.store 8 (.t 8) (.t 22)),
 mv 9 23] [8, 9])
 .ret)
 (.seq (.reg none [i1 25 (.fieldAddr 0 (.t 10)),
 i1 26 (.load 1 false (.t 25)),
 i1 27 (.bin .eql (.t 26) (.c (.int .i64 0))),
 mv 24 27] [3, 8, 10, 24])
 (.cond (.t 24) (.seq (.reg none [i1 28 (.build [.int .i64 0, .int .i64 0, .int .i64 0, .int .i64 0, .int .i64 0, .str [], .sl true 4 0 [], .str []] []),
 i0 (.store 8 (.t 8) (.t 28)),
 i1 9 (.mov false (.c (.int .i64 10)))] [8, 9])
 .ret)
 (.seq (.reg none [mv 30 3,
 i1 31 (.load 8 true (.t 10)),
 i1 32 (.callv (.t 30) [(.t 31)]),
 i1 33 (.un .not (.t 32)),
 mv 29 33] [8, 10, 29])
 (.cond (.t 29) (.seq (.reg none [i1 34 (.build [.int .i64 0, .int .i64 0, .int .i64 0, .int .i64 0, .int .i64 0, .str [], .sl true 4 0 [], .str []] []),
 i0 (.store 8 (.t 8) (.t 34)),
 i1 9 (.mov false (.c (.int .i64 11)))] [8, 9])
 .ret)
 .skip)))))))
 (.seq (.reg none [i1 35 (.load 8 true (.t 10)),
 i0 (.store 8 (.t 8) (.t 35)),
 i1 9 (.mov false (.c (.int .i64 0)))] [8, 9])
 .ret))))
def res_parse_oneW : List IRes := [⟨8, false, some (8, true)⟩, ⟨9, true, none⟩]
theorem is_parse_oneW : fnIs Go.Proofs.Tryz.prog 182 36 res_parse_oneW ir_parse_oneW = true := by kernel_rfl
theorem parse_oneW_fn {b_0 at_1 last_2 c3_0} {B3_0 : Nat} {s : Store} {Q : List AV → Store → Prop} (hB3_0 : s B3_0 = some (.cells [.str c3_0.b])) : ok (parse_oneW b_0 at_1 last_2 c3_0) (fun r => Q [.agg [.int .i64 r.1.Kind, .int .i64 r.1.From, .int .i64 r.1.To, .int .i64 r.1.V.Kind, .int .i64 r.1.V.N, .str r.1.V.S.b, .sl false 4 r.1.V.L.length (flat r.1.V.L), .str r.1.S.b], .int .i64 r.2] s) → FN Go.Proofs.Tryz.prog 182 [.sl false 1 b_0.length (flat b_0), .int .i64 at_1, .bool last_2, .fn 184 [] [.ref B3_0 0]] s Q := by
  have hS : s = (s.set B3_0 (.cells [.str c3_0.b])) := by simp only [set_eq' hB3_0]
  rw [hS]
  intro h
  refine FN.of (draw_ok mix) is_parse_oneW rfl (Nat.le_of_ble_eq_true rfl) ?_
  revert h
  rw [ir_parse_oneW, res_parse_oneW, parse_oneW]
  repeat' (first
    | with_reducible exact tt_to
    | with_reducible refine and_to ?_ ?_
    | with_reducible refine im_to ?_
    | with_reducible refine call_to (fun _ (h : lex_Next b_0 at_1 last_2 = some _) => lex_Next_fe h) (fun r1 => ?_)
    | with_reducible refine call_to (fun _ (h : parse_Word_1 r1.1 c3_0 = some _) => parse_Word_1_fe (B1 := B3_0) (by simp -implicitDefEqProofs only [go_sem, start, startE, resVs, resV, resC, allV, retK, Nat.reduceBEq, Nat.reduceAdd, Nat.reduceMul, Nat.reduceLeDiff, Nat.reduceEqDiff, Nat.reduceBNe, Nat.ble_eq, UInt8.reduceToNat, UInt32.reduceToNat, fnok_184] <;> simp only [encM_nil])   h) (fun r2 => ?_)
    | simp -implicitDefEqProofs only [go_sem, start, startE, resVs, resV, resC, allV, retK, Nat.reduceBEq, Nat.reduceAdd, Nat.reduceMul, Nat.reduceLeDiff, Nat.reduceEqDiff, Nat.reduceBNe, Nat.ble_eq, UInt8.reduceToNat, UInt32.reduceToNat, fnok_184])
theorem parse_oneW_fe {b_0 at_1 last_2 c3_0} {B3_0 : Nat} {s : Store} {r : lex_Token × Int} (hB3_0 : s B3_0 = some (.cells [.str c3_0.b])) (h : parse_oneW b_0 at_1 last_2 c3_0 = some r) : FE Go.Proofs.Tryz.prog 182 [.sl false 1 b_0.length (flat b_0), .int .i64 at_1, .bool last_2, .fn 184 [] [.ref B3_0 0]] s [.agg [.int .i64 r.1.Kind, .int .i64 r.1.From, .int .i64 r.1.To, .int .i64 r.1.V.Kind, .int .i64 r.1.V.N, .str r.1.V.S.b, .sl false 4 r.1.V.L.length (flat r.1.V.L), .str r.1.S.b], .int .i64 r.2] s := parse_oneW_fn hB3_0 ⟨r, h, rfl, rfl⟩
def parse_Word (b_0 : (List UInt8)) (at_1 : Int) (last_2 : Bool) (word_3 : Str) : Option (Int × Int) :=
  bnd (parse_oneW b_0 at_1 last_2 word_3) fun r1 =>
  some (r1.1.To, r1.2)
def ir_parse_Word : IC :=
 (.seq (.reg none [i1 7 (.boxS 1 (.t 3)),
 i1 8 (.mov false (.c (.int .i64 0))),
 i1 9 (.mov false (.c (.int .i64 0)))] [0, 1, 2, 7])
 (.seq (.reg none [mt 13 0,
 mv 14 1,
 mv 15 2,
 i1 16 (.makeFn 184 [] [(.t 7)]),
 i1 17 (.call 182 [(.t 13), (.t 14), (.t 15), (.t 16)]),
 i1 12 (.movT (.t 17)),
 i1 18 (.extract (.t 12) 0),
 i1 19 (.extract (.t 12) 1),
 i1 10 (.allocL [.int .i64 0, .int .i64 0, .int .i64 0, .int .i64 0, .int .i64 0, .str [], .sl true 4 0 [], .str []]),
 i0 (.store 8 (.t 10) (.t 18)),
 mv 11 19] [10, 11])
 (.seq (.reg none [i1 20 (.fieldAddr 2 (.t 10)),
 i1 21 (.load 1 false (.t 20)),
 mv 22 11,
 mv 8 21,
 mv 9 22] [8, 9])
 .ret)))
def res_parse_Word : List IRes := [⟨8, true, none⟩, ⟨9, true, none⟩]
theorem is_parse_Word : fnIs Go.Proofs.Tryz.prog 133 23 res_parse_Word ir_parse_Word = true := by kernel_rfl
theorem parse_Word_fn {b_0 at_1 last_2 word_3} {s : Store} {Q : List AV → Store → Prop}  : ok (parse_Word b_0 at_1 last_2 word_3) (fun r => Q [.int .i64 r.1, .int .i64 r.2] s) → FN Go.Proofs.Tryz.prog 133 [.sl false 1 b_0.length (flat b_0), .int .i64 at_1, .bool last_2, .str word_3.b] s Q := by
  intro h
  refine FN.forget ?_
  refine FN.of (draw_ok mix) is_parse_Word rfl (Nat.le_of_ble_eq_true rfl) ?_
  revert h
  rw [ir_parse_Word, res_parse_Word, parse_Word]
  repeat' (first
    | with_reducible refine call_to (fun _ (h : parse_oneW b_0 at_1 last_2 word_3 = some _) => parse_oneW_fe (B3_0 := N1) (by simp -implicitDefEqProofs only [go_sem, start, startE, resVs, resV, resC, allV, retK, Nat.reduceBEq, Nat.reduceAdd, Nat.reduceMul, Nat.reduceLeDiff, Nat.reduceEqDiff, Nat.reduceBNe, Nat.ble_eq, UInt8.reduceToNat, UInt32.reduceToNat] <;> simp only [encM_nil])   h) (fun r1 => ?_)
    | ((fail_if_success (have _x := sN1)); with_reducible intro hh N1 hN1; (try simp only [set_none] at hN1); have sN1 := hN1; revert hh)
    | with_reducible exact fun hh => ⟨_, SubS.set (SubS.refl _) (by simp [Store.set, sN1]), hh⟩
    | simp -implicitDefEqProofs only [go_sem, start, startE, resVs, resV, resC, allV, retK, Nat.reduceBEq, Nat.reduceAdd, Nat.reduceMul, Nat.reduceLeDiff, Nat.reduceEqDiff, Nat.reduceBNe, Nat.ble_eq, UInt8.reduceToNat, UInt32.reduceToNat])
theorem parse_Word_fe {b_0 at_1 last_2 word_3} {s : Store} {r : Int × Int}  (h : parse_Word b_0 at_1 last_2 word_3 = some r) : FE Go.Proofs.Tryz.prog 133 [.sl false 1 b_0.length (flat b_0), .int .i64 at_1, .bool last_2, .str word_3.b] s [.int .i64 r.1, .int .i64 r.2] s := parse_Word_fn  ⟨r, h, rfl, rfl⟩
end Go.AB
end

section
set_option maxRecDepth 4000
namespace Go.AB
open Go
attribute [-go_sem] xwp_cons xwpK_eq xalt_cons xalt_nil
def parse_wholeW (t_0 : lex_Token) : Option (Bool) :=
  some ((t_0.Kind == 1) && (t_0.V.Kind == 2))
def ir_parse_wholeW : IC :=
 (.seq (.reg none [i1 1 (.boxL 8 (.t 0)),
 i1 2 (.mov false (.c (.bool false)))] [1])
 (.seq (.reg none [i1 3 (.fieldAddr 0 (.t 1)),
 i1 4 (.load 1 false (.t 3)),
 i1 5 (.bin .eql (.t 4) (.c (.int .i64 1))),
 mv 6 5,
 i1g 7 6 true (.fieldAddr 3 (.t 1)),
 i1g 8 6 true (.fieldAddr 0 (.t 7)),
 i1g 9 6 true (.load 1 false (.t 8)),
 i1g 10 6 true (.bin .eql (.t 9) (.c (.int .i64 2))),
 i1 11 (.pick (.t 6) (.t 10) (.c (.bool false))),
 mv 2 11] [2])
 .ret))
def res_parse_wholeW : List IRes := [⟨2, true, none⟩]
theorem is_parse_wholeW : fnIs Go.Proofs.Tryz.prog 183 12 res_parse_wholeW ir_parse_wholeW = true := by kernel_rfl
theorem parse_wholeW_fn {t_0} {s : Store} {Q : List AV → Store → Prop}  : ok (parse_wholeW t_0) (fun r => Q [.bool r] s) → FN Go.Proofs.Tryz.prog 183 [.agg [.int .i64 t_0.Kind, .int .i64 t_0.From, .int .i64 t_0.To, .int .i64 t_0.V.Kind, .int .i64 t_0.V.N, .str t_0.V.S.b, .sl false 4 t_0.V.L.length (flat t_0.V.L), .str t_0.S.b]] s Q := by
  intro h
  refine FN.of (draw_ok mix) is_parse_wholeW rfl (Nat.le_of_ble_eq_true rfl) ?_
  revert h
  rw [ir_parse_wholeW, res_parse_wholeW, parse_wholeW]
  repeat' (first
    | simp -implicitDefEqProofs only [go_sem, start, startE, resVs, resV, resC, allV, retK, Nat.reduceBEq, Nat.reduceAdd, Nat.reduceMul, Nat.reduceLeDiff, Nat.reduceEqDiff, Nat.reduceBNe, Nat.ble_eq, UInt8.reduceToNat, UInt32.reduceToNat])
theorem parse_wholeW_fe {t_0} {s : Store} {r : Bool}  (h : parse_wholeW t_0 = some r) : FE Go.Proofs.Tryz.prog 183 [.agg [.int .i64 t_0.Kind, .int .i64 t_0.From, .int .i64 t_0.To, .int .i64 t_0.V.Kind, .int .i64 t_0.V.N, .str t_0.V.S.b, .sl false 4 t_0.V.L.length (flat t_0.V.L), .str t_0.S.b]] s [.bool r] s := parse_wholeW_fn  ⟨r, h, rfl, rfl⟩
def parse_oneWW (b_0 : (List UInt8)) (at_1 : Int) (last_2 : Bool) : Option (lex_Token × Int) :=
  bnd (lex_Next b_0 at_1 last_2) fun r1 =>
  if r1.2 != 0 then
    some ((lex_Token.mk 0 0 0 (api_Value.mk 0 0 (Str.mk []) ([] : List api_Value)) (Str.mk [])), r1.2)
  else
    if r1.1.Kind == 0 then
      some ((lex_Token.mk 0 0 0 (api_Value.mk 0 0 (Str.mk []) ([] : List api_Value)) (Str.mk [])), 10)
    else
      bnd (parse_wholeW r1.1) fun r2 =>
      if !r2 then
        some ((lex_Token.mk 0 0 0 (api_Value.mk 0 0 (Str.mk []) ([] : List api_Value)) (Str.mk [])), 11)
      else
        some (r1.1, 0)
theorem fnok_183 : (fnOK Go.Proofs.Tryz.prog 183 = true) = True := eq_true (by kernel_rfl)
def ir_parse_oneWW : IC :=
 (.seq (.reg none [i1 8 (.allocL [.int .i64 0, .int .i64 0, .int .i64 0, .int .i64 0, .int .i64 0, .str [], .sl true 4 0 [], .str []]),
 i1 9 (.mov false (.c (.int .i64 0)))] [0, 1, 2, 3, 8])
 (.seq (.reg none [mt 13 0,
 mv 14 1,
 mv 15 2,
 i1 16 (.call 185 [(.t 13), (.t 14), (.t 15)]),
 i1 12 (.movT (.t 16)),
 i1 17 (.extract (.t 12) 0),
 i1 18 (.extract (.t 12) 1),
 i1 10 (.allocL [.int .i64 0, .int .i64 0, .int .i64 0, .int .i64 0, .int .i64 0, .str [], .sl true 4 0 [], .str []]),
 i0 (.store 8 (.t 10) (.t 17)),
 mv 11 18] [3, 8, 10, 11])
 (.seq (.block 0 (.seq (.reg none [mv 20 11,
 i1 21 (.bin .neq (.t 20) (.c (.int .i64 0))),
 mv 19 21] [3, 8, 10, 11, 19])
 (.cond (.t 19) (.seq (.reg none [i1 22 (.build [.int .i64 0, .int .i64 0, .int .i64 0, .int .i64 0, .int .i64 0, .str [], .sl true 4 0 [], .str []] []),
 mv 23 11,
 i0 (.store 8 (.t 8) (.t 22)),
 mv 9 23] [8, 9])
 .ret)
 (.seq (.reg none [i1 25 (.fieldAddr 0 (.t 10)),
 i1 26 (.load 1 false (.t 25)),
 i1 27 (.bin .eql (.t 26) (.c (.int .i64 0))),
 mv 24 27] [3, 8, 10, 24])
 (.cond (.t 24) (.seq (.reg none [i1 28 (.build [.int .i64 0, .int .i64 0, .int .i64 0, .int .i64 0, .int .i64 0, .str [], .sl true 4 0 [], .str []] []),
 i0 (.store 8 (.t 8) (.t 28)),
 i1 9 (.mov false (.c (.int .i64 10)))] [8, 9])
 .ret)
 (.seq (.reg none [mv 30 3,
 i1 31 (.load 8 true (.t 10)),
 i1 32 (.callv (.t 30) [(.t 31)]),
 i1 33 (.un .not (.t 32)),
 mv 29 33] [8, 10, 29])
 (.cond (.t 29) (.seq (.reg none [i1 34 (.build [.int .i64 0, .int .i64 0, .int .i64 0, .int .i64 0, .int .i64 0, .str [], .sl true 4 0 [], .str []] []),
 i0 (.store 8 (.t 8) (.t 34)),
 i1 9 (.mov false (.c (.int .i64 11)))] [8, 9])
 .ret)
 .skip)))))))
 (.seq (.reg none [i1 35 (.load 8 true (.t 10)),
 i0 (.store 8 (.t 8) (.t 35)),
 i1 9 (.mov false (.c (.int .i64 0)))] [8, 9])
 .ret))))
def res_parse_oneWW : List IRes := [⟨8, false, some (8, true)⟩, ⟨9, true, none⟩]
theorem is_parse_oneWW : fnIs Go.Proofs.Tryz.prog 182 36 res_parse_oneWW ir_parse_oneWW = true := by kernel_rfl
theorem parse_oneWW_fn {b_0 at_1 last_2} {s : Store} {Q : List AV → Store → Prop}  : ok (parse_oneWW b_0 at_1 last_2) (fun r => Q [.agg [.int .i64 r.1.Kind, .int .i64 r.1.From, .int .i64 r.1.To, .int .i64 r.1.V.Kind, .int .i64 r.1.V.N, .str r.1.V.S.b, .sl false 4 r.1.V.L.length (flat r.1.V.L), .str r.1.S.b], .int .i64 r.2] s) → FN Go.Proofs.Tryz.prog 182 [.sl false 1 b_0.length (flat b_0), .int .i64 at_1, .bool last_2, .fn 183 [] []] s Q := by
  intro h
  refine FN.of (draw_ok mix) is_parse_oneWW rfl (Nat.le_of_ble_eq_true rfl) ?_
  revert h
  rw [ir_parse_oneWW, res_parse_oneWW, parse_oneWW]
  repeat' (first
    | with_reducible exact tt_to
    | with_reducible refine and_to ?_ ?_
    | with_reducible refine im_to ?_
    | with_reducible refine call_to (fun _ (h : lex_Next b_0 at_1 last_2 = some _) => lex_Next_fe h) (fun r1 => ?_)
    | with_reducible refine call_to (fun _ (h : parse_wholeW r1.1 = some _) => parse_wholeW_fe h) (fun r2 => ?_)
    | simp -implicitDefEqProofs only [go_sem, start, startE, resVs, resV, resC, allV, retK, Nat.reduceBEq, Nat.reduceAdd, Nat.reduceMul, Nat.reduceLeDiff, Nat.reduceEqDiff, Nat.reduceBNe, Nat.ble_eq, UInt8.reduceToNat, UInt32.reduceToNat, fnok_183])
theorem parse_oneWW_fe {b_0 at_1 last_2} {s : Store} {r : lex_Token × Int}  (h : parse_oneWW b_0 at_1 last_2 = some r) : FE Go.Proofs.Tryz.prog 182 [.sl false 1 b_0.length (flat b_0), .int .i64 at_1, .bool last_2, .fn 183 [] []] s [.agg [.int .i64 r.1.Kind, .int .i64 r.1.From, .int .i64 r.1.To, .int .i64 r.1.V.Kind, .int .i64 r.1.V.N, .str r.1.V.S.b, .sl false 4 r.1.V.L.length (flat r.1.V.L), .str r.1.S.b], .int .i64 r.2] s := parse_oneWW_fn  ⟨r, h, rfl, rfl⟩
def parse_Number (b_0 : (List UInt8)) (at_1 : Int) (last_2 : Bool) : Option (Int × Int × Int) :=
  bnd (parse_oneWW b_0 at_1 last_2) fun r1 =>
  some (r1.1.V.N, r1.1.To, r1.2)
def ir_parse_Number : IC :=
 (.seq (.reg none [i1 6 (.mov false (.c (.int .i64 0))),
 i1 7 (.mov false (.c (.int .i64 0))),
 i1 8 (.mov false (.c (.int .i64 0)))] [0, 1, 2])
 (.seq (.reg none [mt 12 0,
 mv 13 1,
 mv 14 2,
 i1 15 (.call 182 [(.t 12), (.t 13), (.t 14), (.c (.fn 183 [] []))]),
 i1 11 (.movT (.t 15)),
 i1 16 (.extract (.t 11) 0),
 i1 17 (.extract (.t 11) 1),
 i1 9 (.allocL [.int .i64 0, .int .i64 0, .int .i64 0, .int .i64 0, .int .i64 0, .str [], .sl true 4 0 [], .str []]),
 i0 (.store 8 (.t 9) (.t 16)),
 mv 10 17] [9, 10])
 (.seq (.reg (some 9) [i1 18 (.fieldAddr 3 (.t 9)),
 i1 19 (.fieldAddr 1 (.t 18)),
 i1 20 (.load 1 false (.t 19)),
 i1 21 (.fieldAddr 2 (.t 9)),
 i1 22 (.load 1 false (.t 21)),
 mv 23 10,
 mv 6 20,
 mv 7 22,
 mv 8 23] [6, 7, 8])
 .ret)))
def res_parse_Number : List IRes := [⟨6, true, none⟩, ⟨7, true, none⟩, ⟨8, true, none⟩]
theorem is_parse_Number : fnIs Go.Proofs.Tryz.prog 132 24 res_parse_Number ir_parse_Number = true := by kernel_rfl
theorem parse_Number_fn {b_0 at_1 last_2} {s : Store} {Q : List AV → Store → Prop}  : ok (parse_Number b_0 at_1 last_2) (fun r => Q [.int .i64 r.1, .int .i64 r.2.1, .int .i64 r.2.2] s) → FN Go.Proofs.Tryz.prog 132 [.sl false 1 b_0.length (flat b_0), .int .i64 at_1, .bool last_2] s Q := by
  intro h
  refine FN.of (draw_ok mix) is_parse_Number rfl (Nat.le_of_ble_eq_true rfl) ?_
  revert h
  rw [ir_parse_Number, res_parse_Number, parse_Number]
  repeat' (first
    | with_reducible refine call_to (fun _ (h : parse_oneWW b_0 at_1 last_2 = some _) => parse_oneWW_fe h) (fun r1 => ?_)
    | simp -implicitDefEqProofs only [go_sem, start, startE, resVs, resV, resC, allV, retK, Nat.reduceBEq, Nat.reduceAdd, Nat.reduceMul, Nat.reduceLeDiff, Nat.reduceEqDiff, Nat.reduceBNe, Nat.ble_eq, UInt8.reduceToNat, UInt32.reduceToNat])
theorem parse_Number_fe {b_0 at_1 last_2} {s : Store} {r : Int × Int × Int}  (h : parse_Number b_0 at_1 last_2 = some r) : FE Go.Proofs.Tryz.prog 132 [.sl false 1 b_0.length (flat b_0), .int .i64 at_1, .bool last_2] s [.int .i64 r.1, .int .i64 r.2.1, .int .i64 r.2.2] s := parse_Number_fn  ⟨r, h, rfl, rfl⟩
end Go.AB
end

section
set_option maxRecDepth 4000
namespace Go.AB
open Go
attribute [-go_sem] xwp_cons xwpK_eq xalt_cons xalt_nil
@[go_sem] theorem pad_api_Value0 (l : List api_Value) : pad [.int .i64 0, .int .i64 0, .str [], .sl false 4 0 []] (views (AB.sub (flat l) 0 4)) = [.int .i64 ((ix l 0).Kind), .int .i64 ((ix l 0).N), .str ((ix l 0).S).b, .sl false 4 ((ix l 0).L).length (flat ((ix l 0).L))] := pad_api_Value l 0
structure frame_place where
  b_ : (List UInt8)
  at_ : Int
  last_ : Bool
instance : Enc frame_place := ⟨3, fun x => [.sl false 1 x.b_.length (flat x.b_), .int .i64 x.at_, .bool x.last_], (frame_place.mk [] 0 false), by decide, fun _ => rfl, fun _ => rfl⟩
@[go_sem] theorem cells_frame_place (x : frame_place) : Enc.cells x = [.sl false 1 x.b_.length (flat x.b_), .int .i64 x.at_, .bool x.last_] := rfl
@[go_sem] theorem w_frame_place : Enc.w frame_place = 3 := rfl
@[go_sem] theorem pad_frame_place (l : List frame_place) (i : Int) : pad [.sl false 1 0 [], .int .i64 0, .bool false] (views (AB.sub (flat l) (i.toNat * 3) 3)) = [.sl false 1 ((ix l i).b_).length (flat ((ix l i).b_)), .int .i64 ((ix l i).at_), .bool ((ix l i).last_)] := by
  rw [← cells_frame_place]; exact flat_pad _ 3 l i (by rw [cells_frame_place]; rfl) rfl
@[go_sem] theorem mk_frame_place (x : frame_place) : frame_place.mk x.b_ x.at_ x.last_ = x := by cases x; rfl
structure frame_reader where
  place_ : frame_place
  e_ : Int
instance : Enc frame_reader := ⟨4, fun x => [.sl false 1 x.place_.b_.length (flat x.place_.b_), .int .i64 x.place_.at_, .bool x.place_.last_, .int .i64 x.e_], (frame_reader.mk (frame_place.mk [] 0 false) 0), by decide, fun _ => rfl, fun _ => rfl⟩
@[go_sem] theorem cells_frame_reader (x : frame_reader) : Enc.cells x = [.sl false 1 x.place_.b_.length (flat x.place_.b_), .int .i64 x.place_.at_, .bool x.place_.last_, .int .i64 x.e_] := rfl
@[go_sem] theorem w_frame_reader : Enc.w frame_reader = 4 := rfl
@[go_sem] theorem pad_frame_reader (l : List frame_reader) (i : Int) : pad [.sl false 1 0 [], .int .i64 0, .bool false, .int .i64 0] (views (AB.sub (flat l) (i.toNat * 4) 4)) = [.sl false 1 (((ix l i).place_).b_).length (flat (((ix l i).place_).b_)), .int .i64 (((ix l i).place_).at_), .bool (((ix l i).place_).last_), .int .i64 ((ix l i).e_)] := by
  rw [← cells_frame_reader]; exact flat_pad _ 4 l i (by rw [cells_frame_reader]; rfl) rfl
@[go_sem] theorem mk_frame_reader (x : frame_reader) : frame_reader.mk x.place_ x.e_ = x := by cases x; rfl
structure api_Object where
  V : api_Value
  Stream : Bool
  Data : Str
instance : Enc api_Object := ⟨6, fun x => [.int .i64 x.V.Kind, .int .i64 x.V.N, .str x.V.S.b, .sl false 4 x.V.L.length (flat x.V.L), .bool x.Stream, .str x.Data.b], (api_Object.mk (api_Value.mk 0 0 (Str.mk []) []) false (Str.mk [])), by decide, fun _ => rfl, fun _ => rfl⟩
@[go_sem] theorem cells_api_Object (x : api_Object) : Enc.cells x = [.int .i64 x.V.Kind, .int .i64 x.V.N, .str x.V.S.b, .sl false 4 x.V.L.length (flat x.V.L), .bool x.Stream, .str x.Data.b] := rfl
@[go_sem] theorem w_api_Object : Enc.w api_Object = 6 := rfl
@[go_sem] theorem pad_api_Object (l : List api_Object) (i : Int) : pad [.int .i64 0, .int .i64 0, .str [], .sl false 4 0 [], .bool false, .str []] (views (AB.sub (flat l) (i.toNat * 6) 6)) = [.int .i64 (((ix l i).V).Kind), .int .i64 (((ix l i).V).N), .str (((ix l i).V).S).b, .sl false 4 (((ix l i).V).L).length (flat (((ix l i).V).L)), .bool ((ix l i).Stream), .str ((ix l i).Data).b] := by
  rw [← cells_api_Object]; exact flat_pad _ 6 l i (by rw [cells_api_Object]; rfl) rfl
@[go_sem] theorem mk_api_Object (x : api_Object) : api_Object.mk x.V x.Stream x.Data = x := by cases x; rfl
def frame_reader_stream (s_0 : frame_reader) (x_1 : api_Value) : Option (api_Object × frame_reader) := none
theorem frame_reader_stream_fn {s_0 : frame_reader} {x_1 : api_Value} {B0 : Nat} {s : Store} {Q : List AV → Store → Prop} (hB0 : s B0 = some (.cells [.sl false 1 s_0.place_.b_.length (flat s_0.place_.b_), .int .i64 s_0.place_.at_, .bool s_0.place_.last_, .int .i64 s_0.e_])) : ok (frame_reader_stream s_0 x_1) (fun r => Q [.agg [.int .i64 r.1.V.Kind, .int .i64 r.1.V.N, .str r.1.V.S.b, .sl false 4 r.1.V.L.length (flat r.1.V.L), .bool r.1.Stream, .str r.1.Data.b]] (s.set B0 (.cells [.sl false 1 r.2.place_.b_.length (flat r.2.place_.b_), .int .i64 r.2.place_.at_, .bool r.2.place_.last_, .int .i64 r.2.e_]))) → FN Go.Proofs.Tryz.prog 166 [.ref B0 0, .agg [.int .i64 x_1.Kind, .int .i64 x_1.N, .str x_1.S.b, .sl false 4 x_1.L.length (flat x_1.L)]] s Q := fun ⟨_, h, _⟩ => by cases h
def frame_reader_fail (r_0 : frame_reader) (e_1 : Int) : Option (frame_reader) :=
  if r_0.e_ == 0 then
    some (frame_reader.mk r_0.place_ e_1)
  else
    some r_0
def ir_frame_reader_fail : IC :=
 (.seq (.reg none [mv 4 0,
 i1 5 (.nilCheck (.t 4)),
 i1 6 (.fieldAddr 3 (.t 5)),
 i1 7 (.loadR [.int .i64 0] false (.t 6)),
 i1 8 (.bin .eql (.t 7) (.c (.int .i64 0)))] [0, 1, 8])
 (.cond (.t 8) (.reg none [mv 9 0,
 mv 10 1,
 i1 11 (.nilCheck (.t 9)),
 i1 12 (.fieldAddr 3 (.t 11)),
 i0 (.store 1 (.t 12) (.t 10))] [])
 .skip))
def res_frame_reader_fail : List IRes := []
theorem is_frame_reader_fail : fnIs Go.Proofs.Tryz.prog 207 13 res_frame_reader_fail ir_frame_reader_fail = true := by kernel_rfl
theorem frame_reader_fail_fn {r_0 e_1} {B0 : Nat} {s : Store} {Q : List AV → Store → Prop} (hB0 : s B0 = some (.cells [.sl false 1 r_0.place_.b_.length (flat r_0.place_.b_), .int .i64 r_0.place_.at_, .bool r_0.place_.last_, .int .i64 r_0.e_])) : ok (frame_reader_fail r_0 e_1) (fun r => Q [] (s.set B0 (.cells [.sl false 1 r.place_.b_.length (flat r.place_.b_), .int .i64 r.place_.at_, .bool r.place_.last_, .int .i64 r.e_]))) → FN Go.Proofs.Tryz.prog 207 [.ref B0 0, .int .i64 e_1] s Q := by
  have hS : s = (s.set B0 (.cells [.sl false 1 r_0.place_.b_.length (flat r_0.place_.b_), .int .i64 r_0.place_.at_, .bool r_0.place_.last_, .int .i64 r_0.e_])) := by simp only [set_eq' hB0]
  rw [hS]
  intro h
  refine FN.of (draw_ok mix) is_frame_reader_fail rfl (Nat.le_of_ble_eq_true rfl) ?_
  revert h
  rw [ir_frame_reader_fail, res_frame_reader_fail, frame_reader_fail]
  repeat' (first
    | simp -implicitDefEqProofs only [go_sem, start, startE, resVs, resV, resC, allV, retK, Nat.reduceBEq, Nat.reduceAdd, Nat.reduceMul, Nat.reduceLeDiff, Nat.reduceEqDiff, Nat.reduceBNe, Nat.ble_eq, UInt8.reduceToNat, UInt32.reduceToNat])
def frame_reader_word (r_0 : frame_reader) (w_1 : Str) : Option (frame_reader) :=
  if r_0.e_ != 0 then
    some r_0
  else
    bnd (parse_Word r_0.place_.b_ r_0.place_.at_ r_0.place_.last_ w_1) fun r1 =>
    some (frame_reader.mk (frame_place.mk r_0.place_.b_ r1.1 r_0.place_.last_) r1.2)
def ir_frame_reader_word : IC :=
 (.seq (.seq (.reg none [mv 4 0,
 i1 5 (.nilCheck (.t 4)),
 i1 6 (.fieldAddr 3 (.t 5)),
 i1 7 (.loadR [.int .i64 0] false (.t 6)),
 i1 8 (.bin .neq (.t 7) (.c (.int .i64 0)))] [0, 1, 8])
 (.cond (.t 8) .ret
 .skip))
 (.regB [] [(1, 0, mv 10 0),
 (1, 1, mv 11 0),
 (0, 2, mv 12 0),
 (0, 3, i1 13 (.nilCheck (.t 12))),
 (0, 4, i1 14 (.fieldAddr 0 (.t 13))),
 (0, 5, i1 15 (.fieldAddr 0 (.t 14))),
 (0, 6, i1 16 (.loadR [.sl false 1 0 []] false (.t 15))),
 (0, 7, mv 17 0),
 (0, 8, i1 18 (.nilCheck (.t 17))),
 (0, 9, i1 19 (.fieldAddr 0 (.t 18))),
 (0, 10, i1 20 (.fieldAddr 1 (.t 19))),
 (0, 11, i1 21 (.loadR [.int .i64 0] false (.t 20))),
 (0, 12, mv 22 0),
 (0, 13, i1 23 (.nilCheck (.t 22))),
 (0, 14, i1 24 (.fieldAddr 0 (.t 23))),
 (0, 15, i1 25 (.fieldAddr 2 (.t 24))),
 (0, 16, i1 26 (.loadR [.bool false] false (.t 25))),
 (0, 17, mv 27 1),
 (2, 18, i1 28 (.call 133 [(.t 16), (.t 21), (.t 26), (.t 27)])),
 (0, 19, i1 9 (.movT (.t 28))),
 (0, 20, i1 29 (.extract (.t 9) 0)),
 (1, 21, i1 30 (.extract (.t 9) 1)),
 (0, 22, i1 31 (.nilCheck (.t 10))),
 (0, 23, i1 32 (.fieldAddr 0 (.t 31))),
 (0, 24, i1 33 (.fieldAddr 1 (.t 32))),
 (2, 25, i0 (.store 1 (.t 33) (.t 29))),
 (0, 26, i1 34 (.nilCheck (.t 11))),
 (0, 27, i1 35 (.fieldAddr 3 (.t 34))),
 (2, 28, i0 (.store 1 (.t 35) (.t 30)))] []))
def res_frame_reader_word : List IRes := []
theorem is_frame_reader_word : fnIs Go.Proofs.Tryz.prog 162 36 res_frame_reader_word ir_frame_reader_word = true := by kernel_rfl
theorem frame_reader_word_fn {r_0 w_1} {B0 : Nat} {s : Store} {Q : List AV → Store → Prop} (hB0 : s B0 = some (.cells [.sl false 1 r_0.place_.b_.length (flat r_0.place_.b_), .int .i64 r_0.place_.at_, .bool r_0.place_.last_, .int .i64 r_0.e_])) : ok (frame_reader_word r_0 w_1) (fun r => Q [] (s.set B0 (.cells [.sl false 1 r.place_.b_.length (flat r.place_.b_), .int .i64 r.place_.at_, .bool r.place_.last_, .int .i64 r.e_]))) → FN Go.Proofs.Tryz.prog 162 [.ref B0 0, .str w_1.b] s Q := by
  have hS : s = (s.set B0 (.cells [.sl false 1 r_0.place_.b_.length (flat r_0.place_.b_), .int .i64 r_0.place_.at_, .bool r_0.place_.last_, .int .i64 r_0.e_])) := by simp only [set_eq' hB0]
  rw [hS]
  intro h
  refine FN.of (draw_ok mix) is_frame_reader_word rfl (Nat.le_of_ble_eq_true rfl) ?_
  revert h
  rw [ir_frame_reader_word, res_frame_reader_word, frame_reader_word]
  repeat' (first
    | with_reducible exact tt_to
    | with_reducible refine and_to ?_ ?_
    | with_reducible refine im_to ?_
    | with_reducible refine call_to (fun _ (h : parse_Word r_0.place_.b_ r_0.place_.at_ r_0.place_.last_ w_1 = some _) => parse_Word_fe h) (fun r1 => ?_)
    | simp -implicitDefEqProofs only [go_sem, start, startE, resVs, resV, resC, allV, retK, Nat.reduceBEq, Nat.reduceAdd, Nat.reduceMul, Nat.reduceLeDiff, Nat.reduceEqDiff, Nat.reduceBNe, Nat.ble_eq, UInt8.reduceToNat, UInt32.reduceToNat])
def frame_reader_number (r_0 : frame_reader) (from_1 : Int) (to_2 : Int) : Option (Int × frame_reader) :=
  if r_0.e_ != 0 then
    some (0, r_0)
  else
    bnd (parse_Number r_0.place_.b_ r_0.place_.at_ r_0.place_.last_) fun r1 =>
    jn (
      if (r1.2.2 == 0) && ((decide (r1.1 < from_1)) || (decide (r1.1 > to_2))) then
        some 18
      else
        some r1.2.2) fun (e4 : Int) =>
    some (r1.1, (frame_reader.mk (frame_place.mk r_0.place_.b_ r1.2.1 r_0.place_.last_) e4))
def ir_frame_reader_number : IC :=
 (.seq (.reg none [i1 6 (.mov false (.c (.int .i64 0)))] [0, 1, 2])
 (.seq (.seq (.reg none [mv 10 0,
 i1 11 (.nilCheck (.t 10)),
 i1 12 (.fieldAddr 3 (.t 11)),
 i1 13 (.loadR [.int .i64 0] false (.t 12)),
 i1 14 (.bin .neq (.t 13) (.c (.int .i64 0)))] [0, 1, 2, 14])
 (.cond (.t 14) (.seq (.reg none [i1 6 (.mov false (.c (.int .i64 0)))] [6])
 .ret)
 .skip))
 (.seq (.reg (some 23) [mv 16 0,
 i1 17 (.nilCheck (.t 16)),
 i1 18 (.fieldAddr 0 (.t 17)),
 i1 19 (.fieldAddr 0 (.t 18)),
 i1 20 (.loadR [.sl false 1 0 []] false (.t 19)),
 mv 21 0,
 i1 22 (.nilCheck (.t 21)),
 i1 23 (.fieldAddr 0 (.t 22)),
 i1 24 (.fieldAddr 1 (.t 23)),
 i1 25 (.loadR [.int .i64 0] false (.t 24)),
 mv 26 0,
 i1 27 (.nilCheck (.t 26)),
 i1 28 (.fieldAddr 0 (.t 27)),
 i1 29 (.fieldAddr 2 (.t 28)),
 i1 30 (.loadR [.bool false] false (.t 29)),
 i1 31 (.call 132 [(.t 20), (.t 25), (.t 30)]),
 i1 15 (.movT (.t 31)),
 i1 32 (.extract (.t 15) 0),
 i1 33 (.extract (.t 15) 1),
 i1 34 (.extract (.t 15) 2),
 mv 7 32,
 mv 8 33,
 mv 9 34] [0, 1, 2, 7, 8, 9])
 (.join [(0, false), (7, false), (8, false), (9, false)] (.seq (.reg none [mv 35 9,
 i1 36 (.bin .eql (.t 35) (.c (.int .i64 0))),
 mv 37 36,
 mvg 38 7 37 true,
 mvg 39 1 37 true,
 i1g 40 37 true (.bin .lss (.t 38) (.t 39)),
 mvg 41 40 37 true,
 mvg 42 7 41 false,
 mvg 43 2 41 false,
 i1g 44 41 false (.bin .gtr (.t 42) (.t 43)),
 i1g 45 37 true (.pick (.t 41) (.c (.bool true)) (.t 44)),
 i1 46 (.pick (.t 37) (.t 45) (.c (.bool false)))] [0, 7, 8, 9, 46])
 (.cond (.t 46) (.reg none [i1 9 (.mov false (.c (.int .i64 18)))] [0, 7, 8, 9])
 .skip))
 (.seq (.reg none [mv 47 0,
 mv 48 0,
 mv 49 8,
 mv 50 9,
 i1 51 (.nilCheck (.t 47)),
 i1 52 (.fieldAddr 0 (.t 51)),
 i1 53 (.fieldAddr 1 (.t 52)),
 i0 (.store 1 (.t 53) (.t 49)),
 i1 54 (.nilCheck (.t 48)),
 i1 55 (.fieldAddr 3 (.t 54)),
 i0 (.store 1 (.t 55) (.t 50))] [7])
 (.seq (.reg none [mv 56 7,
 mv 6 56] [6])
 .ret))))))
def res_frame_reader_number : List IRes := [⟨6, true, none⟩]
theorem is_frame_reader_number : fnIs Go.Proofs.Tryz.prog 161 57 res_frame_reader_number ir_frame_reader_number = true := by kernel_rfl
theorem frame_reader_number_fn {r_0 from_1 to_2} {B0 : Nat} {s : Store} {Q : List AV → Store → Prop} (hB0 : s B0 = some (.cells [.sl false 1 r_0.place_.b_.length (flat r_0.place_.b_), .int .i64 r_0.place_.at_, .bool r_0.place_.last_, .int .i64 r_0.e_])) : ok (frame_reader_number r_0 from_1 to_2) (fun r => Q [.int .i64 r.1] (s.set B0 (.cells [.sl false 1 r.2.place_.b_.length (flat r.2.place_.b_), .int .i64 r.2.place_.at_, .bool r.2.place_.last_, .int .i64 r.2.e_]))) → FN Go.Proofs.Tryz.prog 161 [.ref B0 0, .int .i64 from_1, .int .i64 to_2] s Q := by
  have hS : s = (s.set B0 (.cells [.sl false 1 r_0.place_.b_.length (flat r_0.place_.b_), .int .i64 r_0.place_.at_, .bool r_0.place_.last_, .int .i64 r_0.e_])) := by simp only [set_eq' hB0]
  rw [hS]
  intro h
  refine FN.of (draw_ok mix) is_frame_reader_number rfl (Nat.le_of_ble_eq_true rfl) ?_
  revert h
  rw [ir_frame_reader_number, res_frame_reader_number, frame_reader_number]
  repeat' (first
    | with_reducible exact tt_to
    | with_reducible refine and_to ?_ ?_
    | with_reducible refine im_to ?_
    | with_reducible refine call_to_q (fun _ (h : parse_Number r_0.place_.b_ r_0.place_.at_ r_0.place_.last_ = some _) => parse_Number_fe h) (fun _ => rfl) (fun r1 => ?_)
    | ((with_reducible refine join_to (fun (e4 : Int) => ⟨[(0, .ref B0 0), (7, .int .i64 r1.1), (8, .int .i64 r1.2.1), (9, .int .i64 e4)], [], (s.set B0 (.cells [.sl false 1 r_0.place_.b_.length (flat r_0.place_.b_), .int .i64 r_0.place_.at_, .bool r_0.place_.last_, .int .i64 r_0.e_]))⟩) (fun J => ?_) ?_); rotate_left; rintro e4)
    | simp -implicitDefEqProofs only [go_sem, start, startE, resVs, resV, resC, allV, retK, Nat.reduceBEq, Nat.reduceAdd, Nat.reduceMul, Nat.reduceLeDiff, Nat.reduceEqDiff, Nat.reduceBNe, Nat.ble_eq, UInt8.reduceToNat, UInt32.reduceToNat])
def frame_reader_value (r_0 : frame_reader) : Option (api_Value × frame_reader) :=
  if r_0.e_ != 0 then
    some ((api_Value.mk 0 0 (Str.mk []) ([] : List api_Value)), r_0)
  else
    bnd (parse_Value r_0.place_.b_ r_0.place_.at_ r_0.place_.last_) fun r1 =>
    some (r1.1, (frame_reader.mk (frame_place.mk r_0.place_.b_ r1.2.1 r_0.place_.last_) r1.2.2))
def ir_frame_reader_value : IC :=
 (.seq (.reg none [i1 2 (.allocL [.int .i64 0, .int .i64 0, .str [], .sl true 4 0 []])] [0, 2])
 (.seq (.seq (.reg none [mv 6 0,
 i1 7 (.nilCheck (.t 6)),
 i1 8 (.fieldAddr 3 (.t 7)),
 i1 9 (.loadR [.int .i64 0] false (.t 8)),
 i1 10 (.bin .neq (.t 9) (.c (.int .i64 0)))] [0, 2, 10])
 (.cond (.t 10) (.seq (.reg none [i1 11 (.build [.int .i64 0, .int .i64 0, .str [], .sl true 4 0 []] []),
 i0 (.store 4 (.t 2) (.t 11))] [2])
 .ret)
 .skip))
 (.seq (.regT [3] 24 [mv 13 0,
 i1 14 (.nilCheck (.t 13)),
 i1 15 (.fieldAddr 0 (.t 14)),
 i1 16 (.fieldAddr 0 (.t 15)),
 i1 17 (.loadR [.sl false 1 0 []] false (.t 16)),
 mv 18 0,
 i1 19 (.nilCheck (.t 18)),
 i1 20 (.fieldAddr 0 (.t 19)),
 i1 21 (.fieldAddr 1 (.t 20)),
 i1 22 (.loadR [.int .i64 0] false (.t 21)),
 mv 23 0,
 i1 24 (.nilCheck (.t 23)),
 i1 25 (.fieldAddr 0 (.t 24)),
 i1 26 (.fieldAddr 2 (.t 25)),
 i1 27 (.loadR [.bool false] false (.t 26)),
 i1 28 (.call 83 [(.t 17), (.t 22), (.t 27)]),
 i1 12 (.movT (.t 28)),
 i1 29 (.extract (.t 12) 0),
 i1 30 (.extract (.t 12) 1),
 i1 31 (.extract (.t 12) 2),
 i1 3 (.allocL [.int .i64 0, .int .i64 0, .str [], .sl true 4 0 []]),
 i0 (.store 4 (.t 3) (.t 29)),
 mv 4 30,
 mv 5 31] [0, 2, 3, 4, 5])
 (.seq (.reg none [mv 32 0,
 mv 33 0,
 mv 34 4,
 mv 35 5,
 i1 36 (.nilCheck (.t 32)),
 i1 37 (.fieldAddr 0 (.t 36)),
 i1 38 (.fieldAddr 1 (.t 37)),
 i0 (.store 1 (.t 38) (.t 34)),
 i1 39 (.nilCheck (.t 33)),
 i1 40 (.fieldAddr 3 (.t 39)),
 i0 (.store 1 (.t 40) (.t 35))] [2, 3])
 (.seq (.reg none [i1 41 (.load 4 true (.t 3)),
 i0 (.store 4 (.t 2) (.t 41))] [2])
 .ret)))))
def res_frame_reader_value : List IRes := [⟨2, false, some (4, true)⟩]
theorem is_frame_reader_value : fnIs Go.Proofs.Tryz.prog 164 42 res_frame_reader_value ir_frame_reader_value = true := by kernel_rfl
theorem frame_reader_value_fn {r_0} {B0 : Nat} {s : Store} {Q : List AV → Store → Prop} (hB0 : s B0 = some (.cells [.sl false 1 r_0.place_.b_.length (flat r_0.place_.b_), .int .i64 r_0.place_.at_, .bool r_0.place_.last_, .int .i64 r_0.e_])) : ok (frame_reader_value r_0) (fun r => Q [.agg [.int .i64 r.1.Kind, .int .i64 r.1.N, .str r.1.S.b, .sl false 4 r.1.L.length (flat r.1.L)]] (s.set B0 (.cells [.sl false 1 r.2.place_.b_.length (flat r.2.place_.b_), .int .i64 r.2.place_.at_, .bool r.2.place_.last_, .int .i64 r.2.e_]))) → FN Go.Proofs.Tryz.prog 164 [.ref B0 0] s Q := by
  have hS : s = (s.set B0 (.cells [.sl false 1 r_0.place_.b_.length (flat r_0.place_.b_), .int .i64 r_0.place_.at_, .bool r_0.place_.last_, .int .i64 r_0.e_])) := by simp only [set_eq' hB0]
  rw [hS]
  intro h
  refine FN.of (draw_ok mix) is_frame_reader_value rfl (Nat.le_of_ble_eq_true rfl) ?_
  revert h
  rw [ir_frame_reader_value, res_frame_reader_value, frame_reader_value]
  repeat' (first
    | with_reducible exact tt_to
    | ((with_reducible refine b_to ?_ ?_); exact rfl)
    | with_reducible refine and_to ?_ ?_
    | with_reducible refine im_to ?_
    | with_reducible refine call_to_q (fun _ (h : parse_Value r_0.place_.b_ r_0.place_.at_ r_0.place_.last_ = some _) => parse_Value_fe h) (fun _ => rfl) (fun r1 => ?_)
    | simp -implicitDefEqProofs only [go_sem, start, startE, resVs, resV, resC, allV, retK, Nat.reduceBEq, Nat.reduceAdd, Nat.reduceMul, Nat.reduceLeDiff, Nat.reduceEqDiff, Nat.reduceBNe, Nat.ble_eq, UInt8.reduceToNat, UInt32.reduceToNat])
def frame_reader_streams (r_0 : frame_reader) : Option (Bool × frame_reader) :=
  if r_0.e_ != 0 then
    some (false, r_0)
  else
    bnd (lex_Next r_0.place_.b_ r_0.place_.at_ r_0.place_.last_) fun r1 =>
    jn (
      if r1.2 != 0 then
        some (frame_reader.mk (frame_place.mk r_0.place_.b_ r1.1.To r_0.place_.last_) r1.2)
      else
        if r1.1.Kind == 0 then
          bnd (frame_reader_fail (frame_reader.mk (frame_place.mk r_0.place_.b_ r1.1.To r_0.place_.last_) r1.2) 10) fun r4 =>
          some r4
        else
          if (r1.1.Kind != 6) || ((!(r1.1.S.b == (Str.mk [101, 110, 100, 111, 98, 106]).b)) && (!(r1.1.S.b == (Str.mk [115, 116, 114, 101, 97, 109]).b))) then
            bnd (frame_reader_fail (frame_reader.mk (frame_place.mk r_0.place_.b_ r1.1.To r_0.place_.last_) r1.2) 18) fun r5 =>
            some r5
          else
            some (frame_reader.mk (frame_place.mk r_0.place_.b_ r1.1.To r_0.place_.last_) r1.2)) fun (o3 : frame_reader) =>
    some ((o3.e_ == 0) && (r1.1.S.b == (Str.mk [115, 116, 114, 101, 97, 109]).b), o3)
def ir_frame_reader_streams : IC :=
 (.seq (.reg none [i1 2 (.mov false (.c (.bool false)))] [0])
 (.seq (.seq (.reg none [mv 5 0,
 i1 6 (.nilCheck (.t 5)),
 i1 7 (.fieldAddr 3 (.t 6)),
 i1 8 (.loadR [.int .i64 0] false (.t 7)),
 i1 9 (.bin .neq (.t 8) (.c (.int .i64 0)))] [0, 9])
 (.cond (.t 9) (.seq (.reg none [i1 2 (.mov false (.c (.bool false)))] [2])
 .ret)
 .skip))
 (.seq (.regT [3] 22 [mv 11 0,
 i1 12 (.nilCheck (.t 11)),
 i1 13 (.fieldAddr 0 (.t 12)),
 i1 14 (.fieldAddr 0 (.t 13)),
 i1 15 (.loadR [.sl false 1 0 []] false (.t 14)),
 mv 16 0,
 i1 17 (.nilCheck (.t 16)),
 i1 18 (.fieldAddr 0 (.t 17)),
 i1 19 (.fieldAddr 1 (.t 18)),
 i1 20 (.loadR [.int .i64 0] false (.t 19)),
 mv 21 0,
 i1 22 (.nilCheck (.t 21)),
 i1 23 (.fieldAddr 0 (.t 22)),
 i1 24 (.fieldAddr 2 (.t 23)),
 i1 25 (.loadR [.bool false] false (.t 24)),
 i1 26 (.call 185 [(.t 15), (.t 20), (.t 25)]),
 i1 10 (.movT (.t 26)),
 i1 27 (.extract (.t 10) 0),
 i1 28 (.extract (.t 10) 1),
 i1 3 (.allocL [.int .i64 0, .int .i64 0, .int .i64 0, .int .i64 0, .int .i64 0, .str [], .sl true 4 0 [], .str []]),
 i0 (.store 8 (.t 3) (.t 27)),
 mv 4 28] [0, 3, 4])
 (.seq (.reg none [mv 29 0,
 mv 30 0,
 i1 31 (.fieldAddr 2 (.t 3)),
 i1 32 (.load 1 false (.t 31)),
 mv 33 4,
 i1 34 (.nilCheck (.t 29)),
 i1 35 (.fieldAddr 0 (.t 34)),
 i1 36 (.fieldAddr 1 (.t 35)),
 i0 (.store 1 (.t 36) (.t 32)),
 i1 37 (.nilCheck (.t 30)),
 i1 38 (.fieldAddr 3 (.t 37)),
 i0 (.store 1 (.t 38) (.t 33))] [0, 3, 4])
 (.join [(0, false), (3, false)] (.block 0 (.seq (.reg none [mv 40 4,
 i1 41 (.bin .neq (.t 40) (.c (.int .i64 0))),
 mv 39 41] [0, 3, 39])
 (.cond (.t 39) .skip
 (.seq (.reg none [i1 43 (.fieldAddr 0 (.t 3)),
 i1 44 (.load 1 false (.t 43)),
 i1 45 (.bin .eql (.t 44) (.c (.int .i64 0))),
 mv 42 45] [0, 3, 42])
 (.cond (.t 42) (.reg none [mv 46 0,
 i1 47 (.call 207 [(.t 46), (.c (.int .i64 10))])] [0, 3])
 (.seq (.reg none [i1 49 (.fieldAddr 0 (.t 3)),
 i1 50 (.load 1 false (.t 49)),
 i1 51 (.bin .neq (.t 50) (.c (.int .i64 6))),
 mv 52 51,
 i1g 53 52 false (.fieldAddr 7 (.t 3)),
 i1g 54 52 false (.load 1 false (.t 53)),
 i1g 55 52 false (.bin .neq (.t 54) (.c (.str [101, 110, 100, 111, 98, 106]))),
 mvg 56 55 52 false,
 i1g 57 56 true (.fieldAddr 7 (.t 3)),
 i1g 58 56 true (.load 1 false (.t 57)),
 i1g 59 56 true (.bin .neq (.t 58) (.c (.str [115, 116, 114, 101, 97, 109]))),
 i1g 60 52 false (.pick (.t 56) (.t 59) (.c (.bool false))),
 i1 61 (.pick (.t 52) (.c (.bool true)) (.t 60)),
 mv 48 61] [0, 3, 48])
 (.cond (.t 48) (.reg none [mv 62 0,
 i1 63 (.call 207 [(.t 62), (.c (.int .i64 18))])] [0, 3])
 .skip)))))))
 (.seq (.reg none [mv 64 0,
 i1 65 (.nilCheck (.t 64)),
 i1 66 (.fieldAddr 3 (.t 65)),
 i1 67 (.loadR [.int .i64 0] false (.t 66)),
 i1 68 (.bin .eql (.t 67) (.c (.int .i64 0))),
 mv 69 68,
 i1g 70 69 true (.fieldAddr 7 (.t 3)),
 i1g 71 69 true (.load 1 false (.t 70)),
 i1g 72 69 true (.bin .eql (.t 71) (.c (.str [115, 116, 114, 101, 97, 109]))),
 i1 73 (.pick (.t 69) (.t 72) (.c (.bool false))),
 mv 2 73] [2])
 .ret))))))
def res_frame_reader_streams : List IRes := [⟨2, true, none⟩]
theorem is_frame_reader_streams : fnIs Go.Proofs.Tryz.prog 165 74 res_frame_reader_streams ir_frame_reader_streams = true := by kernel_rfl
theorem frame_reader_streams_fn {r_0} {B0 : Nat} {s : Store} {Q : List AV → Store → Prop} (hB0 : s B0 = some (.cells [.sl false 1 r_0.place_.b_.length (flat r_0.place_.b_), .int .i64 r_0.place_.at_, .bool r_0.place_.last_, .int .i64 r_0.e_])) : ok (frame_reader_streams r_0) (fun r => Q [.bool r.1] (s.set B0 (.cells [.sl false 1 r.2.place_.b_.length (flat r.2.place_.b_), .int .i64 r.2.place_.at_, .bool r.2.place_.last_, .int .i64 r.2.e_]))) → FN Go.Proofs.Tryz.prog 165 [.ref B0 0] s Q := by
  have hS : s = (s.set B0 (.cells [.sl false 1 r_0.place_.b_.length (flat r_0.place_.b_), .int .i64 r_0.place_.at_, .bool r_0.place_.last_, .int .i64 r_0.e_])) := by simp only [set_eq' hB0]
  rw [hS]
  intro h
  refine FN.of (draw_ok mix) is_frame_reader_streams rfl (Nat.le_of_ble_eq_true rfl) ?_
  revert h
  rw [ir_frame_reader_streams, res_frame_reader_streams, frame_reader_streams]
  repeat' (first
    | with_reducible exact tt_to
    | ((with_reducible refine b_to ?_ ?_); exact rfl)
    | with_reducible refine and_to ?_ ?_
    | with_reducible refine im_to ?_
    | with_reducible refine call_to_q (fun _ (h : lex_Next r_0.place_.b_ r_0.place_.at_ r_0.place_.last_ = some _) => lex_Next_fe h) (fun _ => rfl) (fun r1 => ?_)
    | with_reducible refine fun hh => frame_reader_fail_fn (B0 := B0) (by simp -implicitDefEqProofs only [go_sem, start, startE, resVs, resV, resC, allV, retK, Nat.reduceBEq, Nat.reduceAdd, Nat.reduceMul, Nat.reduceLeDiff, Nat.reduceEqDiff, Nat.reduceBNe, Nat.ble_eq, UInt8.reduceToNat, UInt32.reduceToNat] <;> simp only [encM_nil])   (ok_mono (show ok (frame_reader_fail (frame_reader.mk (frame_place.mk r_0.place_.b_ r1.1.To r_0.place_.last_) r1.2) 10) _ from hh) fun r4 => ?_)
    | with_reducible refine fun hh => frame_reader_fail_fn (B0 := B0) (by simp -implicitDefEqProofs only [go_sem, start, startE, resVs, resV, resC, allV, retK, Nat.reduceBEq, Nat.reduceAdd, Nat.reduceMul, Nat.reduceLeDiff, Nat.reduceEqDiff, Nat.reduceBNe, Nat.ble_eq, UInt8.reduceToNat, UInt32.reduceToNat] <;> simp only [encM_nil])   (ok_mono (show ok (frame_reader_fail (frame_reader.mk (frame_place.mk r_0.place_.b_ r1.1.To r_0.place_.last_) r1.2) 18) _ from hh) fun r5 => ?_)
    | ((with_reducible refine join_to (fun (o3 : frame_reader) => ⟨[(0, .ref B0 0), (3, .loc [.int .i64 r1.1.Kind, .int .i64 r1.1.From, .int .i64 r1.1.To, .int .i64 r1.1.V.Kind, .int .i64 r1.1.V.N, .str r1.1.V.S.b, .sl false 4 r1.1.V.L.length (flat r1.1.V.L), .str r1.1.S.b])], [], (s.set B0 (.cells [.sl false 1 o3.place_.b_.length (flat o3.place_.b_), .int .i64 o3.place_.at_, .bool o3.place_.last_, .int .i64 o3.e_]))⟩) (fun J => ?_) ?_); rotate_left; rintro o3)
    | simp -implicitDefEqProofs only [go_sem, start, startE, resVs, resV, resC, allV, retK, Nat.reduceBEq, Nat.reduceAdd, Nat.reduceMul, Nat.reduceLeDiff, Nat.reduceEqDiff, Nat.reduceBNe, Nat.ble_eq, UInt8.reduceToNat, UInt32.reduceToNat])
def frame_Object (v_0 : api_Value) : Option (api_Object) :=
  some (api_Object.mk v_0 false (Str.mk []))
def ir_frame_Object : IC :=
 (.seq (.reg none [i1 1 (.boxL 4 (.t 0)),
 i1 2 (.allocL [.int .i64 0, .int .i64 0, .str [], .sl true 4 0 [], .bool false, .str []])] [1, 2])
 (.seq (.reg none [i1 3 (.load 4 true (.t 1)),
 i1 4 (.build [.int .i64 0, .int .i64 0, .str [], .sl true 4 0 [], .bool false, .str []] [(0, 4, (.t 3))]),
 i0 (.store 6 (.t 2) (.t 4))] [2])
 .ret))
def res_frame_Object : List IRes := [⟨2, false, some (6, true)⟩]
theorem is_frame_Object : fnIs Go.Proofs.Tryz.prog 163 5 res_frame_Object ir_frame_Object = true := by kernel_rfl
theorem frame_Object_fn {v_0} {s : Store} {Q : List AV → Store → Prop}  : ok (frame_Object v_0) (fun r => Q [.agg [.int .i64 r.V.Kind, .int .i64 r.V.N, .str r.V.S.b, .sl false 4 r.V.L.length (flat r.V.L), .bool r.Stream, .str r.Data.b]] s) → FN Go.Proofs.Tryz.prog 163 [.agg [.int .i64 v_0.Kind, .int .i64 v_0.N, .str v_0.S.b, .sl false 4 v_0.L.length (flat v_0.L)]] s Q := by
  intro h
  refine FN.of (draw_ok mix) is_frame_Object rfl (Nat.le_of_ble_eq_true rfl) ?_
  revert h
  rw [ir_frame_Object, res_frame_Object, frame_Object]
  repeat' (first
    | simp -implicitDefEqProofs only [go_sem, start, startE, resVs, resV, resC, allV, retK, Nat.reduceBEq, Nat.reduceAdd, Nat.reduceMul, Nat.reduceLeDiff, Nat.reduceEqDiff, Nat.reduceBNe, Nat.ble_eq, UInt8.reduceToNat, UInt32.reduceToNat])
theorem frame_Object_fe {v_0} {s : Store} {r : api_Object}  (h : frame_Object v_0 = some r) : FE Go.Proofs.Tryz.prog 163 [.agg [.int .i64 v_0.Kind, .int .i64 v_0.N, .str v_0.S.b, .sl false 4 v_0.L.length (flat v_0.L)]] s [.agg [.int .i64 r.V.Kind, .int .i64 r.V.N, .str r.V.S.b, .sl false 4 r.V.L.length (flat r.V.L), .bool r.Stream, .str r.Data.b]] s := frame_Object_fn  ⟨r, h, rfl, rfl⟩
def frame_Parse (b_0 : (List UInt8)) (at_1 : Int) (last_2 : Bool) : Option (Int × api_Object × Int × Int) :=
  bnd (frame_reader_number (frame_reader.mk (frame_place.mk b_0 at_1 last_2) 0) 1 4096) fun r1 =>
  bnd (frame_reader_number r1.2 0 0) fun r2 =>
  bnd (frame_reader_word r2.2 (Str.mk [111, 98, 106])) fun r3 =>
  bnd (frame_reader_value r3) fun r4 =>
  bnd (frame_Object r4.1) fun r5 =>
  jn (
    bnd (frame_reader_streams r4.2) fun r10 =>
    if r10.1 then
      bnd (frame_reader_stream r10.2 r5.V) fun r11 =>
      some (r11.1, r11.2)
    else
      some (r5, r10.2)) fun ((o8, o9) : api_Object × frame_reader) =>
  if o9.e_ != 0 then
    some (0, (api_Object.mk (api_Value.mk 0 0 (Str.mk []) ([] : List api_Value)) false (Str.mk [])), 0, o9.e_)
  else
    some (r1.1, o8, o9.place_.at_, 0)
def ir_frame_Parse : IC :=
 (.seq (.reg none [i1 6 (.mov false (.c (.int .i64 0))),
 i1 7 (.allocL [.int .i64 0, .int .i64 0, .str [], .sl true 4 0 [], .bool false, .str []]),
 i1 8 (.mov false (.c (.int .i64 0))),
 i1 9 (.mov false (.c (.int .i64 0)))] [0, 1, 2, 7])
 (.seq (.reg none [mt 13 0,
 mv 14 1,
 mv 15 2,
 i1 16 (.build [.sl true 1 0 [], .int .i64 0, .bool false] [(0, 1, (.t 13)), (1, 1, (.t 14)), (2, 1, (.t 15))]),
 i1 17 (.build [.sl true 1 0 [], .int .i64 0, .bool false, .int .i64 0] [(0, 3, (.t 16))]),
 i1 18 (.boxS 4 (.t 17)),
 mv 10 18] [7, 10])
 (.seq (.reg none [mv 19 10,
 i1 20 (.call 161 [(.t 19), (.c (.int .i64 1)), (.c (.int .i64 4096))]),
 mv 11 20] [7, 10, 11])
 (.seq (.reg none [mv 21 10,
 i1 22 (.call 161 [(.t 21), (.c (.int .i64 0)), (.c (.int .i64 0))])] [7, 10, 11])
 (.seq (.reg none [mv 23 10,
 i1 24 (.call 162 [(.t 23), (.c (.str [111, 98, 106]))])] [7, 10, 11])
 (.seq (.reg none [mv 25 10,
 i1 26 (.call 164 [(.t 25)]),
 i1 27 (.call 163 [(.t 26)]),
 i1 12 (.allocL [.int .i64 0, .int .i64 0, .str [], .sl true 4 0 [], .bool false, .str []]),
 i0 (.store 6 (.t 12) (.t 27))] [7, 10, 11, 12])
 (.join [(7, false), (10, false), (11, false), (12, false)] (.seq (.reg none [mv 28 10,
 i1 29 (.call 165 [(.t 28)])] [7, 10, 11, 12, 29])
 (.cond (.t 29) (.reg none [mv 30 10,
 i1 31 (.fieldAddr 0 (.t 12)),
 i1 32 (.load 4 true (.t 31)),
 i1 33 (.call 166 [(.t 30), (.t 32)]),
 i0 (.store 6 (.t 12) (.t 33))] [7, 10, 11, 12])
 .skip))
 (.seq (.seq (.reg none [mv 34 10,
 i1 35 (.nilCheck (.t 34)),
 i1 36 (.fieldAddr 3 (.t 35)),
 i1 37 (.loadR [.int .i64 0] false (.t 36)),
 i1 38 (.bin .neq (.t 37) (.c (.int .i64 0)))] [7, 10, 11, 12, 38])
 (.cond (.t 38) (.seq (.regT [7] 9 [i1 39 (.build [.int .i64 0, .int .i64 0, .str [], .sl true 4 0 [], .bool false, .str []] []),
 mv 40 10,
 i1 41 (.nilCheck (.t 40)),
 i1 42 (.fieldAddr 3 (.t 41)),
 i1 43 (.loadR [.int .i64 0] false (.t 42)),
 i1 6 (.mov false (.c (.int .i64 0))),
 i0 (.store 6 (.t 7) (.t 39)),
 i1 8 (.mov false (.c (.int .i64 0))),
 mv 9 43] [6, 7, 8, 9])
 .ret)
 .skip))
 (.seq (.regT [7] 11 [mv 44 11,
 i1 45 (.load 6 true (.t 12)),
 mv 46 10,
 i1 47 (.nilCheck (.t 46)),
 i1 48 (.fieldAddr 0 (.t 47)),
 i1 49 (.fieldAddr 1 (.t 48)),
 i1 50 (.loadR [.int .i64 0] false (.t 49)),
 mv 6 44,
 i0 (.store 6 (.t 7) (.t 45)),
 mv 8 50,
 i1 9 (.mov false (.c (.int .i64 0)))] [6, 7, 8, 9])
 .ret)))))))))
def res_frame_Parse : List IRes := [⟨6, true, none⟩, ⟨7, false, some (6, true)⟩, ⟨8, true, none⟩, ⟨9, true, none⟩]
theorem is_frame_Parse : fnIs Go.Proofs.Tryz.prog 121 51 res_frame_Parse ir_frame_Parse = true := by kernel_rfl
theorem frame_Parse_fn {b_0 at_1 last_2} {s : Store} {Q : List AV → Store → Prop}  : ok (frame_Parse b_0 at_1 last_2) (fun r => Q [.int .i64 r.1, .agg [.int .i64 r.2.1.V.Kind, .int .i64 r.2.1.V.N, .str r.2.1.V.S.b, .sl false 4 r.2.1.V.L.length (flat r.2.1.V.L), .bool r.2.1.Stream, .str r.2.1.Data.b], .int .i64 r.2.2.1, .int .i64 r.2.2.2] s) → FN Go.Proofs.Tryz.prog 121 [.sl false 1 b_0.length (flat b_0), .int .i64 at_1, .bool last_2] s Q := by
  intro h
  refine FN.forget ?_
  refine FN.of (draw_ok mix) is_frame_Parse rfl (Nat.le_of_ble_eq_true rfl) ?_
  revert h
  rw [ir_frame_Parse, res_frame_Parse, frame_Parse]
  repeat' (first
    | with_reducible exact tt_to
    | with_reducible refine and_to ?_ ?_
    | with_reducible refine im_to ?_
    | with_reducible refine fun hh => frame_reader_number_fn (B0 := N1) (by simp -implicitDefEqProofs only [go_sem, start, startE, resVs, resV, resC, allV, retK, Nat.reduceBEq, Nat.reduceAdd, Nat.reduceMul, Nat.reduceLeDiff, Nat.reduceEqDiff, Nat.reduceBNe, Nat.ble_eq, UInt8.reduceToNat, UInt32.reduceToNat] <;> simp only [encM_nil])   (ok_mono (show ok (frame_reader_number (frame_reader.mk (frame_place.mk b_0 at_1 last_2) 0) 1 4096) _ from hh) fun r1 => ?_)
    | with_reducible refine fun hh => frame_reader_number_fn (B0 := N1) (by simp -implicitDefEqProofs only [go_sem, start, startE, resVs, resV, resC, allV, retK, Nat.reduceBEq, Nat.reduceAdd, Nat.reduceMul, Nat.reduceLeDiff, Nat.reduceEqDiff, Nat.reduceBNe, Nat.ble_eq, UInt8.reduceToNat, UInt32.reduceToNat] <;> simp only [encM_nil])   (ok_mono (show ok (frame_reader_number r1.2 0 0) _ from hh) fun r2 => ?_)
    | with_reducible refine fun hh => frame_reader_word_fn (B0 := N1) (by simp -implicitDefEqProofs only [go_sem, start, startE, resVs, resV, resC, allV, retK, Nat.reduceBEq, Nat.reduceAdd, Nat.reduceMul, Nat.reduceLeDiff, Nat.reduceEqDiff, Nat.reduceBNe, Nat.ble_eq, UInt8.reduceToNat, UInt32.reduceToNat] <;> simp only [encM_nil])   (ok_mono (show ok (frame_reader_word r2.2 (Str.mk [111, 98, 106])) _ from hh) fun r3 => ?_)
    | with_reducible refine fun hh => frame_reader_value_fn (B0 := N1) (by simp -implicitDefEqProofs only [go_sem, start, startE, resVs, resV, resC, allV, retK, Nat.reduceBEq, Nat.reduceAdd, Nat.reduceMul, Nat.reduceLeDiff, Nat.reduceEqDiff, Nat.reduceBNe, Nat.ble_eq, UInt8.reduceToNat, UInt32.reduceToNat] <;> simp only [encM_nil])   (ok_mono (show ok (frame_reader_value r3) _ from hh) fun r4 => ?_)
    | with_reducible refine call_to (fun _ (h : frame_Object r4.1 = some _) => frame_Object_fe h) (fun r5 => ?_)
    | with_reducible refine fun hh => frame_reader_streams_fn (B0 := N1) (by simp -implicitDefEqProofs only [go_sem, start, startE, resVs, resV, resC, allV, retK, Nat.reduceBEq, Nat.reduceAdd, Nat.reduceMul, Nat.reduceLeDiff, Nat.reduceEqDiff, Nat.reduceBNe, Nat.ble_eq, UInt8.reduceToNat, UInt32.reduceToNat] <;> simp only [encM_nil])   (ok_mono (show ok (frame_reader_streams r4.2) _ from hh) fun r10 => ?_)
    | with_reducible refine fun hh => frame_reader_stream_fn (B0 := N1) (by simp -implicitDefEqProofs only [go_sem, start, startE, resVs, resV, resC, allV, retK, Nat.reduceBEq, Nat.reduceAdd, Nat.reduceMul, Nat.reduceLeDiff, Nat.reduceEqDiff, Nat.reduceBNe, Nat.ble_eq, UInt8.reduceToNat, UInt32.reduceToNat] <;> simp only [encM_nil])   (ok_mono (show ok (frame_reader_stream r10.2 r5.V) _ from hh) fun r11 => ?_)
    | ((with_reducible refine join_to (fun ((o8, o9) : api_Object × frame_reader) => ⟨[(7, .loc [.int .i64 0, .int .i64 0, .str (Str.mk []).b, .sl true 4 0 [], .bool false, .str (Str.mk []).b]), (10, .ref N1 0), (11, .int .i64 r1.1), (12, .loc [.int .i64 o8.V.Kind, .int .i64 o8.V.N, .str o8.V.S.b, .sl false 4 o8.V.L.length (flat o8.V.L), .bool o8.Stream, .str o8.Data.b])], [], (s.set N1 (.cells [.sl false 1 o9.place_.b_.length (flat o9.place_.b_), .int .i64 o9.place_.at_, .bool o9.place_.last_, .int .i64 o9.e_]))⟩) (fun J => ?_) ?_); rotate_left; rintro ⟨o8, o9⟩)
    | ((fail_if_success (have _x := sN1)); with_reducible intro hh N1 hN1; (try simp only [set_none] at hN1); have sN1 := hN1; revert hh)
    | with_reducible exact fun hh => ⟨_, SubS.set (SubS.refl _) (by simp [Store.set, sN1]), hh⟩
    | simp -implicitDefEqProofs only [go_sem, start, startE, resVs, resV, resC, allV, retK, Nat.reduceBEq, Nat.reduceAdd, Nat.reduceMul, Nat.reduceLeDiff, Nat.reduceEqDiff, Nat.reduceBNe, Nat.ble_eq, UInt8.reduceToNat, UInt32.reduceToNat])
theorem frame_Parse_fe {b_0 at_1 last_2} {s : Store} {r : Int × api_Object × Int × Int}  (h : frame_Parse b_0 at_1 last_2 = some r) : FE Go.Proofs.Tryz.prog 121 [.sl false 1 b_0.length (flat b_0), .int .i64 at_1, .bool last_2] s [.int .i64 r.1, .agg [.int .i64 r.2.1.V.Kind, .int .i64 r.2.1.V.N, .str r.2.1.V.S.b, .sl false 4 r.2.1.V.L.length (flat r.2.1.V.L), .bool r.2.1.Stream, .str r.2.1.Data.b], .int .i64 r.2.2.1, .int .i64 r.2.2.2] s := frame_Parse_fn  ⟨r, h, rfl, rfl⟩
end Go.AB
end

section
namespace Go.AB
open Go
theorem iter_upto {S O : Type} {body : S → Option (S ⊕ O)} {s0 : S} {o : O} (n : Nat) (st : Nat → S) (h0 : st 0 = s0) (hn : n < 18446744073709551615) (hs : ∀ k, k < n → body (st k) = some (.inl (st (k + 1)))) (he : body (st n) = some (.inr o)) : iter body s0 = some o := by
  have key : ∀ j, j ≤ n → ∀ m, iterN body (m + 1 + j) (st (n - j)) = some o := by
    intro j
    induction j with
    | zero =>
      intro _ m
      show iterN body (m + 1) (st n) = some o
      unfold iterN
      rw [he]
    | succ j ih =>
      intro hj m
      show iterN body (m + 1 + j + 1) (st (n - (j + 1))) = some o
      unfold iterN
      rw [hs _ (by omega), show n - (j + 1) + 1 = n - j by omega]
      exact ih (by omega) m
  have := key n (Nat.le_refl n) (18446744073709551616 - 1 - n)
  rw [Nat.sub_self, h0, show 18446744073709551616 - 1 - n + 1 + n = 18446744073709551616 by omega] at this
  exact this
theorem iter_acc {A O : Type} {body : A × Int → Option ((A × Int) ⊕ O)} {a0 : A} {o : O} (n : Nat) (acc : Nat → A) (h0 : acc 0 = a0) (hn : n < 4611686018427387904) (hs : ∀ k, k < n → body (acc k, (k : Int)) = some (.inl (acc (k + 1), w64 ((k : Int) + 1)))) (he : body (acc n, (n : Int)) = some (.inr o)) : iter body (a0, 0) = some o :=
  iter_upto n (fun k => (acc k, (k : Int))) (by rw [h0]; rfl) (by omega) (fun k hk => by
    rw [hs k hk, w64_id (by omega) (by omega)]; rfl) he
theorem iter_cnt {O : Type} {body : Int → Option (Int ⊕ O)} {o : O} (n : Nat) (hn : n < 4611686018427387904) (hs : ∀ k, k < n → body (k : Int) = some (.inl (w64 ((k : Int) + 1)))) (he : body (n : Int) = some (.inr o)) : iter body 0 = some o :=
  iter_upto n (fun k => (k : Int)) rfl (by omega) (fun k hk => by
    rw [hs k hk, w64_id (by omega) (by omega)]; rfl) he
theorem jn_of {α β : Type} {o : Option α} {a : α} {K : α → Option β} {r : Option β} (h : o = some a) (k : K a = r) : jn o K = r := by rw [h]; exact k
theorem bnd_of {α β : Type} {o : Option α} {a : α} {K : α → Option β} {r : Option β} (h : o = some a) (k : K a = r) : bnd o K = r := by rw [h]; exact k
theorem jnS_of {X Y α : Type} {o : Option (X ⊕ Y)} {z : X ⊕ Y} {F : X → Option α} {G : Y → Option α} {r : Option α} (h : o = some z) (k : (match z with | .inl a => F a | .inr b => G b) = r) : jnS o F G = r := by
  rw [h]
  cases z <;> exact k
theorem bndS_of {X Y α : Type} {o : Option (X ⊕ Y)} {z : X ⊕ Y} {F : X → Option α} {G : Y → Option α} {r : Option α} (h : o = some z) (k : (match z with | .inl a => F a | .inr b => G b) = r) : bndS o F G = r := by
  rw [h]
  cases z <;> exact k
theorem need_of {α : Type} {c : Prop} [Decidable c] {o r : Option α} (h : c) (k : o = r) : need c o = r := by rw [need_pos h]; exact k
theorem if_of {α : Type} {c : Prop} [Decidable c] {a b r : α} (h : c) (k : a = r) : (if c then a else b) = r := by rw [if_pos h]; exact k
theorem if_not {α : Type} {c : Prop} [Decidable c] {a b r : α} (h : ¬ c) (k : b = r) : (if c then a else b) = r := by rw [if_neg h]; exact k
inductive Runs {S O : Type} (body : S → Option (S ⊕ O)) : Nat → S → O → Prop
  | stop {m : Nat} {s : S} {o : O} (h : body s = some (.inr o)) : Runs body (m + 1) s o
  | step {m : Nat} {s t : S} {o : O} (h : body s = some (.inl t)) (k : Runs body m t o) : Runs body (m + 1) s o
theorem Runs.iterN {S O : Type} {body : S → Option (S ⊕ O)} {m : Nat} {s : S} {o : O} (h : Runs body m s o) : ∀ n, m ≤ n → iterN body n s = some o := by
  induction h with
  | stop h =>
    intro n hn
    obtain ⟨k, rfl⟩ : ∃ k, n = k + 1 := ⟨n - 1, by omega⟩
    unfold AB.iterN; rw [h]
  | step h _ ih =>
    intro n hn
    obtain ⟨k, rfl⟩ : ∃ k, n = k + 1 := ⟨n - 1, by omega⟩
    unfold AB.iterN; rw [h]
    exact ih k (by omega)
theorem Runs.iter {S O : Type} {body : S → Option (S ⊕ O)} {m : Nat} {s : S} {o : O} (h : Runs body m s o) (hm : m ≤ 18446744073709551616) : iter body s = some o := h.iterN _ hm
end Go.AB
end

section
set_option maxRecDepth 4000
namespace Go.AB
open Go
theorem FN.args {P : Program} {f : FuncId} {args args' : List AV} {s : Store} {Q : List AV → Store → Prop} (h : FN P f args' s Q) (ha : ∀ (G : Gh) (w : World) (vs : Array Value), StoreR G w s → ArgsR w G.R args vs → ArgsR w G.R args' vs) : FN P f args s Q :=
  fun G w vs h1 h2 h3 h4 => h G w vs h1 h2 h3 (ha G w vs h3 h4)
structure api_Span where
  From : Int
  To : Int
  deriving DecidableEq
instance : Enc api_Span := ⟨2, fun x => [.int .i64 x.From, .int .i64 x.To], (api_Span.mk 0 0), by decide, fun _ => rfl, fun _ => rfl⟩
@[go_sem] theorem cells_api_Span (x : api_Span) : Enc.cells x = [.int .i64 x.From, .int .i64 x.To] := rfl
@[go_sem] theorem w_api_Span : Enc.w api_Span = 2 := rfl
@[go_sem] theorem pad_api_Span (l : List api_Span) (i : Int) : pad [.int .i64 0, .int .i64 0] (views (AB.sub (flat l) (i.toNat * 2) 2)) = [.int .i64 ((ix l i).From), .int .i64 ((ix l i).To)] := by
  rw [← cells_api_Span]; exact flat_pad _ 2 l i (by rw [cells_api_Span]; rfl) rfl
@[go_sem] theorem mk_api_Span (x : api_Span) : api_Span.mk x.From x.To = x := by cases x; rfl
def span_empty (x_0 : api_Span) : Option (Bool) :=
  some ((decide (x_0.From < 0)) || (decide (x_0.To ≤ x_0.From)))
def ir_span_empty : IC :=
 (.seq (.reg none [i1 1 (.boxL 2 (.t 0)),
 i1 2 (.mov false (.c (.bool false)))] [1])
 (.seq (.reg none [i1 3 (.fieldAddr 0 (.t 1)),
 i1 4 (.load 1 false (.t 3)),
 i1 5 (.bin .lss (.t 4) (.c (.int .i64 0))),
 mv 6 5,
 i1g 7 6 false (.fieldAddr 1 (.t 1)),
 i1g 8 6 false (.load 1 false (.t 7)),
 i1g 9 6 false (.fieldAddr 0 (.t 1)),
 i1g 10 6 false (.load 1 false (.t 9)),
 i1g 11 6 false (.bin .leq (.t 8) (.t 10)),
 i1 12 (.pick (.t 6) (.c (.bool true)) (.t 11)),
 mv 2 12] [2])
 .ret))
def res_span_empty : List IRes := [⟨2, true, none⟩]
theorem is_span_empty : fnIs Go.Proofs.Tryz.prog 167 13 res_span_empty ir_span_empty = true := by kernel_rfl
theorem span_empty_fn {x_0} {s : Store} {Q : List AV → Store → Prop}  : ok (span_empty x_0) (fun r => Q [.bool r] s) → FN Go.Proofs.Tryz.prog 167 [.agg [.int .i64 x_0.From, .int .i64 x_0.To]] s Q := by
  intro h
  refine FN.of (draw_ok mix) is_span_empty rfl (Nat.le_of_ble_eq_true rfl) ?_
  revert h
  rw [ir_span_empty, res_span_empty, span_empty]
  repeat' (first
    | simp -implicitDefEqProofs only [go_sem, start, startE, resVs, resV, resC, allV, retK, Nat.reduceBEq, Nat.reduceAdd, Nat.reduceMul, Nat.reduceLeDiff, Nat.reduceEqDiff, Nat.reduceBNe, Nat.ble_eq, UInt8.reduceToNat, UInt32.reduceToNat])
theorem span_empty_fe {x_0} {s : Store} {r : Bool}  (h : span_empty x_0 = some r) : FE Go.Proofs.Tryz.prog 167 [.agg [.int .i64 x_0.From, .int .i64 x_0.To]] s [.bool r] s := span_empty_fn  ⟨r, h, rfl, rfl⟩
def slices_IndexFuncapi_Span_api_Span (s_0 : (List api_Span)) : Option (Int) :=
  jnS (
    bndS (
      iter (fun (t2 : Int) =>
        if decide (t2 < (s_0.length : Int)) then
          need (0 ≤ t2 ∧ t2 < s_0.length) <|
          bnd (span_empty (ix s_0 t2)) fun r4 =>
          if r4 then
            some (.inr (.inr t2))
          else
            some (.inl (w64 (t2 + 1)))
        else
          some (.inr (.inl ()))) 0) (fun (_ : Unit) =>
      some (.inl ()))
    (fun (t3 : Int) => some (.inr t3))) (fun (_ : Unit) =>
    some (-1))
  (fun (t1 : Int) => some t1)
theorem fnok_167 : (fnOK Go.Proofs.Tryz.prog 167 = true) = True := eq_true (by kernel_rfl)
def ir_slices_IndexFuncapi_Span_api_Span : IC :=
 (.seq (.reg none [i1 4 (.mov false (.c (.int .i64 0)))] [0, 1])
 (.join [] (.seq (.reg none [mv 6 0,
 i1 7 (.len 0 (.t 6)),
 i1 8 (.mov false (.c (.int .i64 0)))] [0, 1, 7, 8])
 (.block 0 (.loop [(0, true), (1, false), (7, false), (8, false)] (.seq (.reg none [i1 9 (.bin .lss (.t 8) (.t 7))] [0, 1, 7, 8, 9])
 (.seq (.cond (.t 9) .skip
 (.exit 0))
 (.seq (.block 1 (.seq (.reg none [mv 10 8,
 mv 5 10] [0, 1, 5, 7, 8])
 (.seq (.reg none [mv 11 1,
 mv 12 0,
 mv 13 5,
 i1 14 (.indexAddr [.int .i64 0, .int .i64 0] (.t 12) (.t 13)),
 i1 15 (.load 2 true (.t 14)),
 i1 16 (.callv (.t 11) [(.t 15)])] [0, 1, 5, 7, 8, 16])
 (.cond (.t 16) (.seq (.reg none [mv 17 5,
 mv 4 17] [4])
 .ret)
 .skip))))
 (.reg none [i1 18 (.bin .add (.t 8) (.c (.int .i64 1))),
 mv 8 18] [0, 1, 7, 8])))))))
 (.seq (.reg none [i1 4 (.mov false (.c (.int .i64 (-1))))] [4])
 .ret)))
def res_slices_IndexFuncapi_Span_api_Span : List IRes := [⟨4, true, none⟩]
theorem is_slices_IndexFuncapi_Span_api_Span : fnIs Go.Proofs.Tryz.prog 242 19 res_slices_IndexFuncapi_Span_api_Span ir_slices_IndexFuncapi_Span_api_Span = true := by kernel_rfl
theorem slices_IndexFuncapi_Span_api_Span_fn {s_0} {s : Store} {Q : List AV → Store → Prop}  : ok (slices_IndexFuncapi_Span_api_Span s_0) (fun r => Q [.int .i64 r] s) → FN Go.Proofs.Tryz.prog 242 [.sl false 2 s_0.length (flat s_0), .fn 167 [] []] s Q := by
  intro h
  refine FN.of (draw_ok mix) is_slices_IndexFuncapi_Span_api_Span rfl (Nat.le_of_ble_eq_true rfl) ?_
  revert h
  rw [ir_slices_IndexFuncapi_Span_api_Span, res_slices_IndexFuncapi_Span_api_Span, slices_IndexFuncapi_Span_api_Span]
  repeat' (first
    | with_reducible exact tt_to
    | with_reducible refine and_to ?_ ?_
    | with_reducible refine im_to ?_
    | with_reducible refine call_to (fun _ (h : span_empty (ix s_0 t2) = some _) => span_empty_fe h) (fun r4 => ?_)
    | ((with_reducible refine iter_to (fun (t2 : Int) => ⟨[(0, .sl false 2 s_0.length (flat s_0)), (1, .fn 167 [] []), (7, .int .i64 (s_0.length : Int)), (8, .int .i64 t2)], [], s⟩) ?_ ?_); (first | exact rfl | simp -implicitDefEqProofs only [go_sem, start, startE, resVs, resV, resC, allV, retK, Nat.reduceBEq, Nat.reduceAdd, Nat.reduceMul, Nat.reduceLeDiff, Nat.reduceEqDiff, Nat.reduceBNe, Nat.ble_eq, UInt8.reduceToNat, UInt32.reduceToNat, fnok_167]); rintro J t2)
    | ((with_reducible refine join_toS (fun (_ : Unit) => ⟨[], [], s⟩) (fun J => ?_) ?_); rotate_left; rintro _)
    | simp -implicitDefEqProofs only [go_sem, start, startE, resVs, resV, resC, allV, retK, Nat.reduceBEq, Nat.reduceAdd, Nat.reduceMul, Nat.reduceLeDiff, Nat.reduceEqDiff, Nat.reduceBNe, Nat.ble_eq, UInt8.reduceToNat, UInt32.reduceToNat, fnok_167])
theorem slices_IndexFuncapi_Span_api_Span_fe {s_0} {s : Store} {r : Int}  (h : slices_IndexFuncapi_Span_api_Span s_0 = some r) : FE Go.Proofs.Tryz.prog 242 [.sl false 2 s_0.length (flat s_0), .fn 167 [] []] s [.int .i64 r] s := slices_IndexFuncapi_Span_api_Span_fn  ⟨r, h, rfl, rfl⟩
def cmp_isNaNint (x_0 : Int) : Option (Bool) :=
  some (x_0 != x_0)
def ir_cmp_isNaNint : IC :=
 (.seq (.reg none [i1 2 (.mov false (.c (.bool false)))] [0])
 (.seq (.reg none [mv 3 0,
 mv 4 0,
 i1 5 (.bin .neq (.t 3) (.t 4)),
 mv 2 5] [2])
 .ret))
def res_cmp_isNaNint : List IRes := [⟨2, true, none⟩]
theorem is_cmp_isNaNint : fnIs Go.Proofs.Tryz.prog 284 6 res_cmp_isNaNint ir_cmp_isNaNint = true := by kernel_rfl
theorem cmp_isNaNint_fn {x_0} {s : Store} {Q : List AV → Store → Prop}  : ok (cmp_isNaNint x_0) (fun r => Q [.bool r] s) → FN Go.Proofs.Tryz.prog 284 [.int .i64 x_0] s Q := by
  intro h
  refine FN.of (draw_ok mix) is_cmp_isNaNint rfl (Nat.le_of_ble_eq_true rfl) ?_
  revert h
  rw [ir_cmp_isNaNint, res_cmp_isNaNint, cmp_isNaNint]
  repeat' (first
    | simp -implicitDefEqProofs only [go_sem, start, startE, resVs, resV, resC, allV, retK, Nat.reduceBEq, Nat.reduceAdd, Nat.reduceMul, Nat.reduceLeDiff, Nat.reduceEqDiff, Nat.reduceBNe, Nat.ble_eq, UInt8.reduceToNat, UInt32.reduceToNat])
theorem cmp_isNaNint_fe {x_0} {s : Store} {r : Bool}  (h : cmp_isNaNint x_0 = some r) : FE Go.Proofs.Tryz.prog 284 [.int .i64 x_0] s [.bool r] s := cmp_isNaNint_fn  ⟨r, h, rfl, rfl⟩
def cmp_Compareint (x_0 : Int) (y_1 : Int) : Option (Int) :=
  bnd (cmp_isNaNint x_0) fun r1 =>
  bnd (cmp_isNaNint y_1) fun r2 =>
  if r1 then
    if r2 then
      some 0
    else
      some (-1)
  else
    if r2 then
      some 1
    else
      if decide (x_0 < y_1) then
        some (-1)
      else
        if decide (x_0 > y_1) then
          some 1
        else
          some 0
def ir_cmp_Compareint : IC :=
 (.seq (.reg none [i1 4 (.mov false (.c (.int .i64 0)))] [0, 1])
 (.seq (.reg none [mv 7 0,
 i1 8 (.call 284 [(.t 7)]),
 mv 5 8] [0, 1, 5])
 (.seq (.reg none [mv 9 1,
 i1 10 (.call 284 [(.t 9)]),
 mv 6 10] [0, 1, 5, 6])
 (.seq (.seq (.reg none [mv 11 5] [0, 1, 6, 11])
 (.cond (.t 11) (.seq (.seq (.reg none [mv 12 6] [12])
 (.cond (.t 12) (.seq (.reg none [i1 4 (.mov false (.c (.int .i64 0)))] [4])
 .ret)
 .skip))
 (.seq (.reg none [i1 4 (.mov false (.c (.int .i64 (-1))))] [4])
 .ret))
 .skip))
 (.seq (.seq (.reg none [mv 13 6] [0, 1, 13])
 (.cond (.t 13) (.seq (.reg none [i1 4 (.mov false (.c (.int .i64 1)))] [4])
 .ret)
 .skip))
 (.seq (.seq (.reg none [mv 14 0,
 mv 15 1,
 i1 16 (.bin .lss (.t 14) (.t 15))] [0, 1, 16])
 (.cond (.t 16) (.seq (.reg none [i1 4 (.mov false (.c (.int .i64 (-1))))] [4])
 .ret)
 .skip))
 (.seq (.seq (.reg none [mv 17 0,
 mv 18 1,
 i1 19 (.bin .gtr (.t 17) (.t 18))] [19])
 (.cond (.t 19) (.seq (.reg none [i1 4 (.mov false (.c (.int .i64 1)))] [4])
 .ret)
 .skip))
 (.seq (.reg none [i1 4 (.mov false (.c (.int .i64 0)))] [4])
 .ret))))))))
def res_cmp_Compareint : List IRes := [⟨4, true, none⟩]
theorem is_cmp_Compareint : fnIs Go.Proofs.Tryz.prog 246 20 res_cmp_Compareint ir_cmp_Compareint = true := by kernel_rfl
theorem cmp_Compareint_fn {x_0 y_1} {s : Store} {Q : List AV → Store → Prop}  : ok (cmp_Compareint x_0 y_1) (fun r => Q [.int .i64 r] s) → FN Go.Proofs.Tryz.prog 246 [.int .i64 x_0, .int .i64 y_1] s Q := by
  intro h
  refine FN.of (draw_ok mix) is_cmp_Compareint rfl (Nat.le_of_ble_eq_true rfl) ?_
  revert h
  rw [ir_cmp_Compareint, res_cmp_Compareint, cmp_Compareint]
  repeat' (first
    | with_reducible refine call_to (fun _ (h : cmp_isNaNint x_0 = some _) => cmp_isNaNint_fe h) (fun r1 => ?_)
    | with_reducible refine call_to (fun _ (h : cmp_isNaNint y_1 = some _) => cmp_isNaNint_fe h) (fun r2 => ?_)
    | simp -implicitDefEqProofs only [go_sem, start, startE, resVs, resV, resC, allV, retK, Nat.reduceBEq, Nat.reduceAdd, Nat.reduceMul, Nat.reduceLeDiff, Nat.reduceEqDiff, Nat.reduceBNe, Nat.ble_eq, UInt8.reduceToNat, UInt32.reduceToNat])
theorem cmp_Compareint_fe {x_0 y_1} {s : Store} {r : Int}  (h : cmp_Compareint x_0 y_1 = some r) : FE Go.Proofs.Tryz.prog 246 [.int .i64 x_0, .int .i64 y_1] s [.int .i64 r] s := cmp_Compareint_fn  ⟨r, h, rfl, rfl⟩
def cmp_Orint (vals_0 : (List Int)) : Option (Int) :=
  jnS (
    bndS (
      iter (fun (t3 : Int) =>
        if decide (t3 < (vals_0.length : Int)) then
          need (0 ≤ t3 ∧ t3 < vals_0.length) <|
          if (ix vals_0 t3) != 0 then
            some (.inr (.inr (ix vals_0 t3)))
          else
            some (.inl (w64 (t3 + 1)))
        else
          some (.inr (.inl ()))) 0) (fun (_ : Unit) =>
      some (.inl ()))
    (fun (t5 : Int) => some (.inr t5))) (fun (_ : Unit) =>
    some 0)
  (fun (t2 : Int) => some t2)
def ir_cmp_Orint : IC :=
 (.seq (.reg none [i1 2 (.mov false (.c (.int .i64 0)))] [0])
 (.seq (.reg none [i1 3 (.mov false (.c (.int .i64 0)))] [0, 3])
 (.join [(3, false)] (.seq (.reg none [mt 6 0,
 i1 7 (.len 0 (.t 6)),
 i1 8 (.mov false (.c (.int .i64 0)))] [3, 6, 7, 8])
 (.block 0 (.loop [(3, false), (6, true), (7, false), (8, false)] (.seq (.reg none [i1 9 (.bin .lss (.t 8) (.t 7))] [3, 6, 7, 8, 9])
 (.seq (.cond (.t 9) .skip
 (.exit 0))
 (.seq (.block 1 (.seq (.reg none [i1 10 (.indexAddr [.int .i64 0] (.t 6) (.t 8)),
 i1 11 (.load 1 false (.t 10)),
 mv 5 11] [3, 5, 6, 7, 8])
 (.seq (.reg none [mv 12 5,
 mv 13 3,
 i1 14 (.bin .neq (.t 12) (.t 13))] [3, 5, 6, 7, 8, 14])
 (.cond (.t 14) (.seq (.reg none [mv 15 5,
 mv 2 15] [2])
 .ret)
 .skip))))
 (.reg none [i1 16 (.bin .add (.t 8) (.c (.int .i64 1))),
 mv 8 16] [3, 6, 7, 8])))))))
 (.seq (.reg none [mv 17 3,
 mv 2 17] [2])
 .ret))))
def res_cmp_Orint : List IRes := [⟨2, true, none⟩]
theorem is_cmp_Orint : fnIs Go.Proofs.Tryz.prog 245 18 res_cmp_Orint ir_cmp_Orint = true := by kernel_rfl
theorem cmp_Orint_fn {vals_0} {s : Store} {Q : List AV → Store → Prop}  : ok (cmp_Orint vals_0) (fun r => Q [.int .i64 r] s) → FN Go.Proofs.Tryz.prog 245 [.sl false 1 vals_0.length (flat vals_0)] s Q := by
  intro h
  refine FN.of (draw_ok mix) is_cmp_Orint rfl (Nat.le_of_ble_eq_true rfl) ?_
  revert h
  rw [ir_cmp_Orint, res_cmp_Orint, cmp_Orint]
  repeat' (first
    | ((with_reducible refine iter_to (fun (t3 : Int) => ⟨[(3, .int .i64 0), (6, .sl false 1 vals_0.length (flat vals_0)), (7, .int .i64 (vals_0.length : Int)), (8, .int .i64 t3)], [], s⟩) ?_ ?_); (first | exact rfl | simp -implicitDefEqProofs only [go_sem, start, startE, resVs, resV, resC, allV, retK, Nat.reduceBEq, Nat.reduceAdd, Nat.reduceMul, Nat.reduceLeDiff, Nat.reduceEqDiff, Nat.reduceBNe, Nat.ble_eq, UInt8.reduceToNat, UInt32.reduceToNat]); rintro J t3)
    | ((with_reducible refine join_toS (fun (_ : Unit) => ⟨[(3, .int .i64 0)], [], s⟩) (fun J => ?_) ?_); rotate_left; rintro _)
    | simp -implicitDefEqProofs only [go_sem, start, startE, resVs, resV, resC, allV, retK, Nat.reduceBEq, Nat.reduceAdd, Nat.reduceMul, Nat.reduceLeDiff, Nat.reduceEqDiff, Nat.reduceBNe, Nat.ble_eq, UInt8.reduceToNat, UInt32.reduceToNat])
theorem cmp_Orint_fe {vals_0} {s : Store} {r : Int}  (h : cmp_Orint vals_0 = some r) : FE Go.Proofs.Tryz.prog 245 [.sl false 1 vals_0.length (flat vals_0)] s [.int .i64 r] s := cmp_Orint_fn  ⟨r, h, rfl, rfl⟩
def span_before (a_0 : api_Span) (b_1 : api_Span) : Option (Int) :=
  bnd (cmp_Compareint a_0.From b_1.From) fun r1 =>
  bnd (cmp_Compareint a_0.To b_1.To) fun r2 =>
  bnd (cmp_Orint [r1, r2]) fun r3 =>
  some r3
def ir_span_before : IC :=
 (.seq (.reg none [i1 2 (.boxL 2 (.t 0)),
 i1 3 (.boxL 2 (.t 1)),
 i1 4 (.mov false (.c (.int .i64 0)))] [2, 3])
 (.seq (.reg (some 13) [i1 5 (.fieldAddr 0 (.t 2)),
 i1 6 (.load 1 false (.t 5)),
 i1 7 (.fieldAddr 0 (.t 3)),
 i1 8 (.load 1 false (.t 7)),
 i1 9 (.call 246 [(.t 6), (.t 8)]),
 i1 10 (.fieldAddr 1 (.t 2)),
 i1 11 (.load 1 false (.t 10)),
 i1 12 (.fieldAddr 1 (.t 3)),
 i1 13 (.load 1 false (.t 12)),
 i1 14 (.call 246 [(.t 11), (.t 13)]),
 i1 15 (.buildSl 1 2 [.int .i64 0, .int .i64 0] [(0, 1, (.t 9)), (1, 1, (.t 14))]),
 i1 16 (.call 245 [(.t 15)]),
 mv 4 16] [4])
 .ret))
def res_span_before : List IRes := [⟨4, true, none⟩]
theorem is_span_before : fnIs Go.Proofs.Tryz.prog 216 17 res_span_before ir_span_before = true := by kernel_rfl
theorem span_before_fn {a_0 b_1} {s : Store} {Q : List AV → Store → Prop}  : ok (span_before a_0 b_1) (fun r => Q [.int .i64 r] s) → FN Go.Proofs.Tryz.prog 216 [.agg [.int .i64 a_0.From, .int .i64 a_0.To], .agg [.int .i64 b_1.From, .int .i64 b_1.To]] s Q := by
  intro h
  refine FN.of (draw_ok mix) is_span_before rfl (Nat.le_of_ble_eq_true rfl) ?_
  revert h
  rw [ir_span_before, res_span_before, span_before]
  repeat' (first
    | with_reducible refine call_to_q (fun _ (h : cmp_Compareint a_0.From b_1.From = some _) => cmp_Compareint_fe h) (fun _ => rfl) (fun r1 => ?_)
    | with_reducible refine call_to_q (fun _ (h : cmp_Compareint a_0.To b_1.To = some _) => cmp_Compareint_fe h) (fun _ => rfl) (fun r2 => ?_)
    | with_reducible refine call_to_q (fun _ (h : cmp_Orint [r1, r2] = some _) => (by refine FE_cast ?_ (cmp_Orint_fe h); simp -implicitDefEqProofs only [go_sem, start, startE, resVs, resV, resC, allV, retK, Nat.reduceBEq, Nat.reduceAdd, Nat.reduceMul, Nat.reduceLeDiff, Nat.reduceEqDiff, Nat.reduceBNe, Nat.ble_eq, UInt8.reduceToNat, UInt32.reduceToNat])) (fun _ => rfl) (fun r3 => ?_)
    | simp -implicitDefEqProofs only [go_sem, start, startE, resVs, resV, resC, allV, retK, Nat.reduceBEq, Nat.reduceAdd, Nat.reduceMul, Nat.reduceLeDiff, Nat.reduceEqDiff, Nat.reduceBNe, Nat.ble_eq, UInt8.reduceToNat, UInt32.reduceToNat])
theorem span_before_fe {a_0 b_1} {s : Store} {r : Int}  (h : span_before a_0 b_1 = some r) : FE Go.Proofs.Tryz.prog 216 [.agg [.int .i64 a_0.From, .int .i64 a_0.To], .agg [.int .i64 b_1.From, .int .i64 b_1.To]] s [.int .i64 r] s := span_before_fn  ⟨r, h, rfl, rfl⟩
def ir_CloneSpn : IC :=
 (.seq (.reg none [i1 2 (.mov false (.c (.arr 0 0 0 0)))] [0])
 (.seq (.seq (.reg none [mv 3 0,
 i1 4 (.eqN false (.t 3))] [0, 4])
 (.cond (.t 4) (.seq (.reg none [i1 2 (.mov false (.c (.arr 0 0 0 0)))] [2])
 .ret)
 .skip))
 (.seq (.reg none [i1 5 (.buildSlA 2 0 [] []),
 mv 6 0,
 i1 7 (.appendA 2 16 [.int .i64 0, .int .i64 0] (.t 5) (.t 6)),
 mv 2 7] [2])
 .ret)))
def res_CloneSpn : List IRes := [⟨2, true, none⟩]
theorem is_CloneSpn : fnIs Go.Proofs.Tryz.prog 180 8 res_CloneSpn ir_CloneSpn = true := by kernel_rfl
def cloneSpnP (l : List api_Span) (s : Store) (rs : List AV) (s' : Store) : Prop := (∃ b cap sp, rs = [.arr b 0 l.length cap] ∧ s b = none ∧ 0 < cap ∧ l.length ≤ cap ∧ (flat l ++ sp).length = cap * 2 ∧ views (flat l ++ sp) = flat l ++ sp ∧ s' = s.set b (.cells (flat l ++ sp))) ∨ (l = [] ∧ s' = s ∧ ∃ b, rs = [.arr b 0 0 0])
theorem cloneSpn_arr {o : Bool} {l : List api_Span} {s : Store} (hr : l.length * 16 ≤ room) : FN Go.Proofs.Tryz.prog 180 [.sl o 2 l.length (flat l)] s (cloneSpnP l s) := by
  refine FN.weak (FN.of (draw_ok mix) is_CloneSpn rfl (Nat.le_of_ble_eq_true rfl) ?_)
  generalize hQ : (fun rs s' => ∃ s2, Sub s2 s' ∧ cloneSpnP l s rs s2) = Q
  have hq : ∀ rs s' s2, Sub s2 s' → cloneSpnP l s rs s2 → Q rs s' := fun rs s' s2 h1 h2 => by rw [← hQ]; exact ⟨s2, h1, h2⟩
  rw [ir_CloneSpn, res_CloneSpn]
  simp -implicitDefEqProofs only [go_sem, start, startE, resVs, resV, resC, allV, retK, Nat.reduceBEq, Nat.reduceAdd, Nat.reduceMul, Nat.reduceLeDiff, Nat.reduceEqDiff, Nat.reduceBNe, Nat.ble_eq, UInt8.reduceToNat, UInt32.reduceToNat]
  intro v hv
  refine ⟨fun h => hq _ _ s (Sub.refl s) (.inr ⟨List.eq_nil_of_length_eq_zero (hv (by simpa using h)), rfl, 0, rfl⟩), fun _ b1 hb1 => ?_⟩
  rw [srcV_sl, flat_views]
  by_cases hl : l = []
  · subst hl
    refine appendAW_zero rfl rfl (Nat.le_refl 0) ?_
    simp -implicitDefEqProofs only [go_sem, start, startE, resVs, resV, resC, allV, retK, Nat.reduceBEq, Nat.reduceAdd, Nat.reduceMul, Nat.reduceLeDiff, Nat.reduceEqDiff, Nat.reduceBNe, Nat.ble_eq, UInt8.reduceToNat, UInt32.reduceToNat]
    exact hq _ _ s ((Sub.refl s).set hb1) (.inr ⟨rfl, rfl, _, rfl⟩)
  · have hn : 0 < l.length := List.length_pos_iff.2 hl
    refine appendAW_new rfl rfl (by omega) (by rw [Nat.zero_add]; exact hr) fun b2 cap hb2 hcap => ?_
    rw [Nat.zero_add] at hcap
    have hz : (List.replicate (cap - (0 + l.length)) [.int .i64 0, .int .i64 0]).flatten = flat (List.replicate (cap - l.length) (api_Span.mk 0 0 : api_Span)) := by
      rw [flat_rep, Nat.zero_add]; rfl
    rw [hz]
    simp -implicitDefEqProofs only [go_sem, start, startE, resVs, resV, resC, allV, retK, Nat.reduceBEq, Nat.reduceAdd, Nat.reduceMul, Nat.reduceLeDiff, Nat.reduceEqDiff, Nat.reduceBNe, Nat.ble_eq, UInt8.reduceToNat, UInt32.reduceToNat, Nat.zero_add, List.nil_append]
    have hb2' : s b2 = none := ((Sub.refl s).set hb1).none hb2
    refine hq _ _ _ (Sub.set2 ((Sub.refl s).set hb1)) (.inl ⟨b2, cap, _, rfl, hb2', by omega, hcap, ?_, ?_, rfl⟩)
    · rw [List.length_append, flat_len, flat_len, List.length_replicate]
      show l.length * 2 + (cap - l.length) * 2 = cap * 2
      omega
    · rw [views_append, flat_views, flat_views]
theorem cloneSpn_sl {o : Bool} {l : List api_Span} {s : Store} (hr : l.length * 16 ≤ room) : FE Go.Proofs.Tryz.prog 180 [.sl o 2 l.length (flat l)] s [.sl true 2 l.length (flat l)] s :=
  FN.row_sl (flat_len l) (flat_views l) ⟨rfl, rfl⟩ ((cloneSpn_arr hr).mono fun rs s' h => by
    rcases h with ⟨b, cap, sp, h1, h2, h3, h4, h5, h6, h7⟩ | ⟨h1, h2, h3⟩
    · exact .inl ⟨b, cap, sp, h1, by rw [h7]; exact set_at, h3, h4, h5, by rw [h7, del_set h2]; exact Sub.refl s⟩
    · subst h1; exact .inr ⟨rfl, rfl, by rw [h2]; exact Sub.refl s, h3⟩)
theorem cloneSpn_us {o : Bool} {l : List api_Span} {s : Store} (hr : l.length * 16 ≤ room) : FE Go.Proofs.Tryz.prog 180 [.sl o 2 l.length (flat l)] s [.us 2 l.length (flat l)] s :=
  FN.row_us (flat_len l) ⟨rfl, rfl⟩ ((cloneSpn_arr hr).mono fun rs s' h => by
    rcases h with ⟨b, cap, sp, h1, h2, h3, h4, h5, h6, h7⟩ | ⟨h1, h2, h3⟩
    · exact .inl ⟨b, cap, sp, h1, by rw [h7]; exact set_at, h3, h4, h5, h6, by rw [h7, del_set h2]; exact Sub.refl s⟩
    · subst h1; exact .inr ⟨rfl, rfl, by rw [h2]; exact Sub.refl s, h3⟩)
def ir_DelSpn : IC :=
 (.seq (.reg none [i1 4 (.mov false (.c (.arr 0 0 0 0)))] [0, 1])
 (.seq (.reg none [mv 8 0,
 mv 9 1,
 i1 10 (.call 242 [(.t 8), (.t 9)]),
 mv 5 10] [0, 1, 5])
 (.seq (.seq (.reg none [mv 11 5,
 i1 12 (.bin .eql (.t 11) (.c (.int .i64 (-1))))] [0, 1, 5, 12])
 (.cond (.t 12) (.seq (.reg none [mv 13 0,
 mv 4 13] [4])
 .ret)
 .skip))
 (.seq (.seq (.reg none [mv 14 5,
 i1 15 (.bin .add (.t 14) (.c (.int .i64 1))),
 mv 6 15] [0, 1, 5, 6])
 (.block 0 (.loop [(0, false), (1, false), (5, false), (6, false)] (.seq (.seq (.reg none [mv 16 6,
 mv 17 0,
 i1 18 (.len 0 (.t 17)),
 i1 19 (.bin .lss (.t 16) (.t 18))] [0, 1, 5, 6, 19])
 (.cond (.t 19) .skip
 (.exit 0)))
 (.seq (.block 1 (.seq (.reg none [mv 22 0,
 mv 23 6,
 i1 24 (.indexAddr [.int .i64 0, .int .i64 0] (.t 22) (.t 23)),
 i1 25 (.load 2 true (.t 24)),
 i1 7 (.allocL [.int .i64 0, .int .i64 0]),
 i0 (.store 2 (.t 7) (.t 25))] [0, 1, 5, 6, 7])
 (.seq (.reg none [mv 26 1,
 i1 27 (.load 2 true (.t 7)),
 i1 28 (.callv (.t 26) [(.t 27)]),
 i1 29 (.un .not (.t 28))] [0, 1, 5, 6, 7, 29])
 (.cond (.t 29) (.seq (.reg none [mv 30 0,
 mv 31 5,
 i1 32 (.load 2 true (.t 7)),
 i1 33 (.indexAddr [.int .i64 0, .int .i64 0] (.t 30) (.t 31)),
 i0 (.store 2 (.t 33) (.t 32))] [0, 1, 5, 6])
 (.reg none [mv 34 5,
 i1 35 (.bin .add (.t 34) (.c (.int .i64 1))),
 mv 5 35] [0, 1, 5, 6]))
 .skip))))
 (.reg none [mv 20 6,
 i1 21 (.bin .add (.t 20) (.c (.int .i64 1))),
 mv 6 21] [0, 1, 5, 6]))))))
 (.seq (.reg none [mv 36 0,
 mv 37 5,
 i1 38 (.slice 2 (.t 36) (some (.t 37)) none none),
 i0 (.clearA [.int .i64 0, .int .i64 0] (.t 38))] [0, 5])
 (.seq (.reg none [mv 39 0,
 mv 40 5,
 i1 41 (.slice 2 (.t 39) none (some (.t 40)) none),
 mv 4 41] [4])
 .ret))))))
def res_DelSpn : List IRes := [⟨4, true, none⟩]
theorem is_DelSpn : fnIs Go.Proofs.Tryz.prog 214 42 res_DelSpn ir_DelSpn = true := by kernel_rfl
end Go.AB
end

section
set_option maxRecDepth 4000
namespace Go.AB
open Go
theorem index_args_spn {T : Type} [Enc T] {w : World} {R R' : Nat → Nat} {b cap f : Nat} {l : List T} {vs : Array Value} (mono : ∀ a u, VR w R a u → VR w R' a u) (hv : ∀ u, VR w R (.arr b 0 l.length cap) u → VR w R' (.sl false 2 l.length (flat l)) u)
    (ha : ArgsR w R [.arr b 0 l.length cap, .fn f [] []] vs) : ArgsR w R' [.sl false 2 l.length (flat l), .fn f [] []] vs := by
  refine ⟨ha.1, fun j a v hj hvs => ?_⟩
  match j, hj with
  | 0, hj => cases hj; exact hv v (ha.2 0 _ v rfl hvs)
  | 1, hj => cases hj; exact mono _ _ (ha.2 1 _ v rfl hvs)
theorem index_row_spn {b cap : Nat} {l : List api_Span} {sp : List AV} {r : Int} {s : Store} {Q : List AV → Store → Prop} (hs : s b = some (.cells (flat l ++ sp))) (hn : l.length ≤ cap) (h : slices_IndexFuncapi_Span_api_Span l = some r) (hq : Q [.int .i64 r] s) :
    FN Go.Proofs.Tryz.prog 242 [.arr b 0 l.length cap, .fn 167 [] []] s Q := by
  refine FN.borrow b (l.length * 2) (args' := [.sl false 2 l.length (flat l), .fn 167 [] []]) (FE.app (slices_IndexFuncapi_Span_api_Span_fe h) ⟨rfl, hq⟩) fun G w vs hst ha => ?_
  refine index_args_spn (fun a u h => h.mono (fun i => ?_) fun _ _ _ => rfl) (fun u hu => arr_view hst (flat_len l) hn (flat_views l) (fun _ => ⟨sp, hs⟩) hu (by decide)) ha
  show G.R i ≤ if i = b ∧ b < w.heap.size then l.length * 2 else G.R i
  split
  · rename_i e
    obtain ⟨q2, q3, _⟩ := hst b _ hs
    rw [e.1, q3]; exact Nat.zero_le _
  · exact Nat.le_refl _
theorem arr_nil2 {w : World} {R : Nat → Nat} {b off sz : Nat} {v : Value} (hv : VR w R (.arr b off 0 0) v) : VR w R (.sl false sz 0 []) v := by
  rcases VR.inv_arr' hv with e | ⟨_, _, e⟩
  · rw [e]; exact .sle sz _ _
  · rw [e]; exact .slnil false sz
theorem index_nil_spn {b off : Nat} {r : Int} {s : Store} {Q : List AV → Store → Prop} (h : slices_IndexFuncapi_Span_api_Span [] = some r) (hq : Q [.int .i64 r] s) :
    FN Go.Proofs.Tryz.prog 242 [.arr b off 0 0, .fn 167 [] []] s Q :=
  FN.args (FE.app (slices_IndexFuncapi_Span_api_Span_fe h) hq) fun G w vs _ ha => ⟨ha.1, fun j a v hj hv => by
    match j, hj with
    | 0, hj => cases hj; exact arr_nil2 (ha.2 0 _ v rfl hv)
    | 1, hj => cases hj; exact ha.2 1 _ v rfl hv⟩
theorem set_self {s : Store} {b : Nat} {o : SO} (h : s b = some o) : s.set b o = s := by
  funext c
  unfold Store.set
  split
  · rename_i e; subst e; rw [h]
  · rfl
def spE (x : api_Span) : Bool := (decide (x.From < 0)) || (decide (x.To ≤ x.From))
theorem spE_fe (x : api_Span) (s : Store) : FE Go.Proofs.Tryz.prog 167 [.agg [.int .i64 x.From, .int .i64 x.To]] s [.bool (spE x)] s := span_empty_fe rfl
theorem delSpn_arr {b cap i : Nat} {l : List api_Span} {sp : List AV} {s : Store} {Q : List AV → Store → Prop} (hs : s b = some (.cells (flat l ++ sp))) (hl : (flat l ++ sp).length = cap * 2) (hn : l.length ≤ cap) (hbig : (l.length : Int) ≤ 9223372036854775807)
    (hidx : slices_IndexFuncapi_Span_api_Span l = some (i : Int)) (hi : i < l.length) (hk : (l.take (i + 1)).filter (fun x => !spE x) = l.take i)
    (hq : ∀ sp', (flat (l.filter (fun x => !spE x)) ++ sp').length = cap * 2 → Q [.arr b 0 (l.filter (fun x => !spE x)).length cap] (s.set b (.cells (flat (l.filter (fun x => !spE x)) ++ sp')))) :
    FN Go.Proofs.Tryz.prog 214 [.arr b 0 l.length cap, .fn 167 [] []] s Q := by
  refine FN.of (draw_ok mix) is_DelSpn rfl (Nat.le_of_ble_eq_true rfl) ?_
  rw [ir_DelSpn, res_DelSpn]
  simp -implicitDefEqProofs only [go_sem, start, startE, resVs, resV, resC, allV, retK, Nat.reduceBEq, Nat.reduceAdd, Nat.reduceMul, Nat.reduceLeDiff, Nat.reduceEqDiff, Nat.reduceBNe, Nat.ble_eq, UInt8.reduceToNat]
  refine index_row_spn hs hn hidx ?_
  simp -implicitDefEqProofs only [go_sem, start, startE, resVs, resV, resC, allV, retK, Nat.reduceBEq, Nat.reduceAdd, Nat.reduceMul, Nat.reduceLeDiff, Nat.reduceEqDiff, Nat.reduceBNe, Nat.ble_eq, UInt8.reduceToNat]
  have e1 : (((i : Int)) == -1) = false := by rw [beq_eq_false_iff_ne]; omega
  rw [e1]
  refine ⟨fun h => (by cases h), fun _ => ?_⟩
  have w1 : w64 ((i : Int) + 1) = ((i + 1 : Nat) : Int) := by rw [w64_id (by omega) (by omega)]; omega
  rw [w1]
  refine ⟨fun τ => ∃ (a j : Nat) (l' : List api_Span), τ = ⟨[(0, .arr b 0 l.length cap), (1, .fn 167 [] []), (5, .int .i64 (a : Int)), (6, .int .i64 (j : Int))], [], s.set b (.cells (flat l' ++ sp))⟩ ∧ l'.length = l.length ∧ a < j ∧ j ≤ l.length ∧ l'.take a = (l.take j).filter (fun x => !spE x) ∧ l'.drop j = l.drop j ∧ a = ((l.take j).filter (fun x => !spE x)).length,
    fun τ => match look τ.e 6 with | .int _ j => l.length - j.toNat | _ => 0, ?_, ?_⟩
  · refine ⟨i, i + 1, l, ?_, rfl, by omega, by omega, hk.symm, rfl, ?_⟩
    · rw [set_self hs]; rfl
    · rw [hk]; simp; omega
  · rintro τ ⟨a, j, l', rfl, h1, h2, h3, h4, h5, h6⟩
    have hlen : (flat l' ++ sp).length = cap * 2 := by rw [← hl, List.length_append, List.length_append, flat_len, flat_len, h1]
    simp -implicitDefEqProofs only [go_sem, start, startE, resVs, resV, resC, allV, retK, Nat.reduceBEq, Nat.reduceAdd, Nat.reduceMul, Nat.reduceLeDiff, Nat.reduceEqDiff, Nat.reduceBNe, Nat.ble_eq, UInt8.reduceToNat, set_at]
    refine ⟨fun hj => ⟨⟨by omega, of_decide_eq_true hj⟩, ?_⟩, fun hj => ⟨by omega, ?_⟩⟩
    · have hj := of_decide_eq_true hj
      have hj' : j < l.length := by omega
      have hx : ∃ x, l.drop j = x :: l.drop (j + 1) ∧ (l.take (j + 1)).filter (fun x => !spE x) = (l.take j).filter (fun x => !spE x) ++ (if spE x then [] else [x]) := by
        refine ⟨l[j], List.drop_eq_getElem_cons hj', ?_⟩
        rw [List.take_succ_eq_append_getElem hj', List.filter_append]
        cases hg : spE l[j] <;> simp [hg]
      obtain ⟨x, hx1, hx2⟩ := hx
      have hd : decide (j * 2 + 2 ≤ (flat l').length + sp.length) = true := decide_eq_true (by rw [flat_len, h1]; show j * 2 + 2 ≤ l.length * 2 + _; omega)
      have hv : views (AB.sub (flat l' ++ sp) (j * 2) 2) = [.int .i64 x.From, .int .i64 x.To] := by
        have := row_sub l' sp 2 j 1 rfl (by omega)
        rw [Nat.one_mul] at this
        rw [this, h5, hx1]; rfl
      rw [hd, hv]
      simp -implicitDefEqProofs only [go_sem, start, startE, resVs, resV, resC, allV, retK, Nat.reduceBEq, Nat.reduceAdd, Nat.reduceMul, Nat.reduceLeDiff, Nat.reduceEqDiff, Nat.reduceBNe, Nat.ble_eq, UInt8.reduceToNat]
      refine ⟨(by kernel_rfl), FE.app (spE_fe x _) ?_⟩
      have w2 : w64 ((j : Int) + 1) = ((j + 1 : Nat) : Int) := by rw [w64_id (by omega) (by omega)]; omega
      have w3 : w64 ((a : Int) + 1) = ((a + 1 : Nat) : Int) := by rw [w64_id (by omega) (by omega)]; omega
      simp -implicitDefEqProofs only [go_sem, start, startE, resVs, resV, resC, allV, retK, Nat.reduceBEq, Nat.reduceAdd, Nat.reduceMul, Nat.reduceLeDiff, Nat.reduceEqDiff, Nat.reduceBNe, Nat.ble_eq, UInt8.reduceToNat, set_at, w2, w3]
      have st := row_set l' [x] sp 2 a rfl (by simp; omega)
      have d1 : l'.drop (j + 1) = l.drop (j + 1) := by rw [← List.drop_drop, ← List.drop_drop, h5]
      have ht : (l'.take a ++ [x]).length = a + 1 := by simp; omega
      refine ⟨fun hg => ⟨⟨by omega, by omega⟩, by rw [flat_len, h1]; show a * 2 + 2 ≤ l.length * 2 + _; omega, ⟨a + 1, j + 1, l'.take a ++ [x] ++ l'.drop (a + 1), ?_, ?_, by omega, by omega, ?_, ?_, ?_⟩, by omega⟩,
        fun hg => ⟨⟨a, j + 1, l', rfl, h1, by omega, by omega, ?_, d1, ?_⟩, by omega⟩⟩
      · rw [show setAt (flat l' ++ sp) (a * 2) [AV.int .i64 x.From, AV.int .i64 x.To] = _ from st]; rfl
      · rw [List.length_append, ht, List.length_drop]; omega
      · rw [List.take_append_of_le_length (by omega), List.take_of_length_le (by omega), hx2, h4]
        have : spE x = false := by cases h : spE x <;> simp_all
        simp [this]
      · rw [List.drop_append, List.drop_of_length_le (by omega), List.nil_append, ht, List.drop_drop, show a + 1 + (j + 1 - (a + 1)) = j + 1 by omega, d1]
      · have : spE x = false := by cases h : spE x <;> simp_all
        rw [hx2, List.length_append, ← h6, this]; rfl
      · have : spE x = true := by cases h : spE x <;> simp_all
        rw [h4, hx2, this]; simp
      · have : spE x = true := by cases h : spE x <;> simp_all
        rw [hx2, this, h6]; simp
    · have hj := of_decide_eq_false hj
      obtain rfl : j = l.length := by omega
      rw [arrOff_lt (by omega)]
      have hsp : (flat l' ++ sp).length = cap * 2 := by omega
      refine clearAW_in rfl set_at (by
        rw [hsp]
        show 0 + a * 2 + (l.length - a) * 2 ≤ cap * 2
        omega) ?_
      have hz : (List.replicate (l.length - a) [AV.int .i64 0, AV.int .i64 0]).flatten = flat (List.replicate (l.length - a) (api_Span.mk 0 0)) := by
        rw [flat_rep]; rfl
      have st := row_set l' (List.replicate (l.length - a) (api_Span.mk 0 0)) sp 2 a rfl (by simp; omega)
      have e3 : l'.drop (a + (List.replicate (l.length - a) (api_Span.mk 0 0)).length) = [] := by
        rw [List.drop_eq_nil_iff]; simp; omega
      rw [e3, List.append_nil, h4, List.take_length, flat_append, List.append_assoc] at st
      rw [List.take_length] at h6
      rw [Nat.zero_add, hz, st]
      generalize hF : l.filter (fun x => !spE x) = F at hq h6
      have hq' := hq (flat (List.replicate (l.length - a) (api_Span.mk 0 0)) ++ sp) (by
        rw [List.length_append, List.length_append, flat_len, flat_len, List.length_replicate, ← h6]
        rw [List.length_append, flat_len, h1] at hsp
        have q1 : Enc.w api_Span = 2 := rfl
        rw [q1] at hsp ⊢
        omega)
      rw [← h6] at hq'
      generalize flat (List.replicate (l.length - a) (api_Span.mk 0 0)) ++ sp = sp' at hq'
      simp -implicitDefEqProofs only [go_sem, start, startE, resVs, resV, resC, allV, retK, Nat.reduceBEq, Nat.reduceAdd, Nat.reduceMul, Nat.reduceLeDiff, Nat.reduceEqDiff, Nat.reduceBNe, Nat.ble_eq, UInt8.reduceToNat]
      exact ⟨by omega, hq'⟩
theorem delSpn_none {b off n cap : Nat} {s : Store} {Q : List AV → Store → Prop} (hx : ∀ Q : List AV → Store → Prop, Q [.int .i64 (-1)] s → FN Go.Proofs.Tryz.prog 242 [.arr b off n cap, .fn 167 [] []] s Q) (hq : Q [.arr b off n cap] s) :
    FN Go.Proofs.Tryz.prog 214 [.arr b off n cap, .fn 167 [] []] s Q := by
  refine FN.of (draw_ok mix) is_DelSpn rfl (Nat.le_of_ble_eq_true rfl) ?_
  rw [ir_DelSpn, res_DelSpn]
  simp -implicitDefEqProofs only [go_sem, start, startE, resVs, resV, resC, allV, retK, Nat.reduceBEq, Nat.reduceAdd, Nat.reduceMul, Nat.reduceLeDiff, Nat.reduceEqDiff, Nat.reduceBNe, Nat.ble_eq, UInt8.reduceToNat]
  refine hx _ ?_
  simp -implicitDefEqProofs only [go_sem, start, startE, resVs, resV, resC, allV, retK, Nat.reduceBEq, Nat.reduceAdd, Nat.reduceMul, Nat.reduceLeDiff, Nat.reduceEqDiff, Nat.reduceBNe, Nat.ble_eq, UInt8.reduceToNat]
  exact ⟨fun _ => hq, fun h => (by cases h)⟩
theorem index_spn (l : List api_Span) (hb : l.length < 4611686018427387904) :
    slices_IndexFuncapi_Span_api_Span l = some (match l.findIdx? spE with | some i => (i : Int) | none => -1) := by
  unfold slices_IndexFuncapi_Span_api_Span
  have step : ∀ k (hk : k < l.length), span_empty (ix l (k : Int)) = some (spE l[k]) := fun k hk => by
    have e : ix l (k : Int) = l[k] := ix_at (i := (k : Int)) hk
    rw [e]; rfl
  cases h : l.findIdx? spE with
  | none =>
    rw [List.findIdx?_eq_none_iff] at h
    refine jnS_of (z := .inl ()) (bndS_of (z := .inl ()) (iter_cnt l.length hb (fun k hk => ?_) ?_) rfl) rfl
    · refine if_of (decide_eq_true (by omega)) (need_of ⟨by omega, by omega⟩ (bnd_of (step k hk) ?_))
      rw [h _ (List.getElem_mem hk)]; rfl
    · exact if_not (by simp) rfl
  | some i =>
    rw [List.findIdx?_eq_some_iff_getElem] at h
    obtain ⟨hi, h1, h2⟩ := h
    refine jnS_of (z := .inr (i : Int)) (bndS_of (z := .inr (i : Int)) (iter_cnt i (by omega) (fun k hk => ?_) ?_) rfl) rfl
    · refine if_of (decide_eq_true (by omega)) (need_of ⟨by omega, by omega⟩ (bnd_of (step k (by omega)) ?_))
      have := h2 k hk
      rw [Bool.not_eq_true] at this
      rw [this]; rfl
    · refine if_of (decide_eq_true (by omega)) (need_of ⟨by omega, by omega⟩ (bnd_of (step i hi) ?_))
      rw [h1]; rfl
def full (l : List api_Span) : List api_Span := l.filter fun x => !spE x
theorem delSpn_row {l : List api_Span} {s : Store} {Q : List AV → Store → Prop} (hb : l.length * 16 ≤ room) {b cap : Nat} {sp : List AV} (hs : s b = some (.cells (flat l ++ sp))) (hn : l.length ≤ cap) (hl : (flat l ++ sp).length = cap * 2)
    (hq : ∀ sp', (flat (full l) ++ sp').length = cap * 2 → Q [.arr b 0 (full l).length cap] (s.set b (.cells (flat (full l) ++ sp')))) : FN Go.Proofs.Tryz.prog 214 [.arr b 0 l.length cap, .fn 167 [] []] s Q := by
  have hb' : l.length < 4611686018427387904 := by unfold room at hb; omega
  have hidx := index_spn l hb'
  cases h : l.findIdx? spE with
  | none =>
    rw [h] at hidx
    have hall : full l = l := by
      rw [List.findIdx?_eq_none_iff] at h
      exact List.filter_eq_self.2 fun x hx => by simp [h x hx]
    rw [hall] at hq
    refine delSpn_none (fun Q' hq' => index_row_spn hs hn hidx hq') ?_
    have := hq sp hl
    rwa [set_self hs] at this
  | some i =>
    rw [h] at hidx
    rw [List.findIdx?_eq_some_iff_getElem] at h
    obtain ⟨hi, h1, h2⟩ := h
    refine delSpn_arr hs hl hn (by omega) hidx hi ?_ hq
    rw [List.take_succ_eq_append_getElem hi, List.filter_append]
    have e1 : (l.take i).filter (fun x => !spE x) = l.take i := by
      refine List.filter_eq_self.2 fun x hx => ?_
      obtain ⟨k, hk, rfl⟩ := List.getElem_of_mem hx
      rw [List.length_take] at hk
      rw [List.getElem_take]
      have := h2 k (by omega)
      simpa using this
    rw [e1]
    simp [h1]
theorem delSpn_nil {b off : Nat} {s : Store} {Q : List AV → Store → Prop} (hq : Q [.arr b off 0 0] s) : FN Go.Proofs.Tryz.prog 214 [.arr b off 0 0, .fn 167 [] []] s Q :=
  delSpn_none (fun Q' hq' => index_nil_spn (r := -1) (index_spn [] (by decide)) hq') hq
end Go.AB
end

section
namespace Go.AB
open Go
def spIn (p : Int) (x : api_Span) : Prop := x.From ≤ p ∧ p < x.To
def spMem (p : Int) (l : List api_Span) : Prop := ∃ x ∈ l, spIn p x
def Form (l : List api_Span) : Prop := (∀ x ∈ l, 0 ≤ x.From ∧ x.From < x.To) ∧ l.Pairwise fun x y => x.To < y.From
theorem Form.tail {x : api_Span} {l : List api_Span} (h : Form (x :: l)) : Form l := ⟨fun y hy => h.1 y (List.mem_cons_of_mem _ hy), (List.pairwise_cons.1 h.2).2⟩
theorem Form.head_le {x : api_Span} {l : List api_Span} (h : Form (x :: l)) {p : Int} (hp : spMem p (x :: l)) : x.From ≤ p := by
  obtain ⟨y, hy, h1⟩ := hp
  rcases List.mem_cons.1 hy with rfl | hy
  · exact h1.1
  · have := (List.pairwise_cons.1 h.2).1 y hy
    have := (h.1 x List.mem_cons_self).2
    have := h1.1
    omega
theorem Form.unique : ∀ {l m : List api_Span}, Form l → Form m → (∀ p, spMem p l ↔ spMem p m) → l = m
  | [], [], _, _, _ => rfl
  | [], y :: m, _, hm, h => by
    obtain ⟨_, hx, _⟩ := (h y.From).2 ⟨y, List.mem_cons_self, Int.le_refl _, (hm.1 y List.mem_cons_self).2⟩
    cases hx
  | x :: l, [], hl, _, h => by
    obtain ⟨_, hx, _⟩ := (h x.From).1 ⟨x, List.mem_cons_self, Int.le_refl _, (hl.1 x List.mem_cons_self).2⟩
    cases hx
  | x :: l, y :: m, hl, hm, h => by
    have hx := hl.1 x List.mem_cons_self
    have hy := hm.1 y List.mem_cons_self
    have e1 : x.From = y.From := by
      have h1 := hm.head_le ((h x.From).1 ⟨x, List.mem_cons_self, Int.le_refl _, hx.2⟩)
      have h2 := hl.head_le ((h y.From).2 ⟨y, List.mem_cons_self, Int.le_refl _, hy.2⟩)
      omega
    have out : ∀ {a : api_Span} {k : List api_Span}, Form (a :: k) → ¬ spMem a.To (a :: k) := fun {a k} hf hmem => by
      obtain ⟨z, hz, h1⟩ := hmem
      rcases List.mem_cons.1 hz with rfl | hz
      · have := h1.2; omega
      · have := (List.pairwise_cons.1 hf.2).1 z hz
        have := h1.1; omega
    have e2 : x.To = y.To := by
      rcases Int.lt_trichotomy x.To y.To with hlt | he | hgt
      · exact (out hl ((h x.To).2 ⟨y, List.mem_cons_self, by have := hx.2; omega, hlt⟩)).elim
      · exact he
      · exact (out hm ((h y.To).1 ⟨x, List.mem_cons_self, by have := hy.2; omega, hgt⟩)).elim
    have exy : x = y := by
      obtain ⟨a, b⟩ := x; obtain ⟨c, d⟩ := y
      simp only at e1 e2
      rw [e1, e2]
    subst exy
    have rest : ∀ p, spMem p l ↔ spMem p m := fun p => by
      have low : ∀ {k : List api_Span}, Form (x :: k) → ∀ z ∈ k, x.To < z.From := fun hf z hz => (List.pairwise_cons.1 hf.2).1 z hz
      constructor
      · rintro ⟨z, hz, h1⟩
        obtain ⟨z', hz', h2⟩ := (h p).1 ⟨z, List.mem_cons_of_mem _ hz, h1⟩
        rcases List.mem_cons.1 hz' with rfl | hz'
        · have := low hl z hz
          have := h1.1; have := h2.2; omega
        · exact ⟨z', hz', h2⟩
      · rintro ⟨z, hz, h1⟩
        obtain ⟨z', hz', h2⟩ := (h p).2 ⟨z, List.mem_cons_of_mem _ hz, h1⟩
        rcases List.mem_cons.1 hz' with rfl | hz'
        · have := low hm z hz
          have := h1.1; have := h2.2; omega
        · exact ⟨z', hz', h2⟩
    rw [Form.unique hl.tail hm.tail rest]
def joinStep (gap : Int) (out : List api_Span) (x : api_Span) : List api_Span := match out.getLast? with
  | none => [x]
  | some y => if w64 (x.From - y.To) ≤ gap then out.dropLast ++ [⟨y.From, max y.To x.To⟩] else out ++ [x]
def joinL (gap : Int) (l : List api_Span) : List api_Span := l.foldl (joinStep gap) []
def leS (x y : api_Span) : Prop := x.From < y.From ∨ (x.From = y.From ∧ x.To ≤ y.To)
def Asc (l : List api_Span) : Prop := l.Pairwise leS
theorem joinStep_snoc (gap : Int) (O : List api_Span) (y x : api_Span) : joinStep gap (O ++ [y]) x = if w64 (x.From - y.To) ≤ gap then O ++ [⟨y.From, max y.To x.To⟩] else O ++ [y] ++ [x] := by
  unfold joinStep
  rw [List.getLast?_append]
  simp
def SpOK (x : api_Span) : Prop := 0 ≤ x.From ∧ x.From < x.To ∧ x.To ≤ 9223372036854775807
theorem Form.snoc {O : List api_Span} {y : api_Span} (h : Form O) (hy : 0 ≤ y.From ∧ y.From < y.To) (hl : ∀ a ∈ O, a.To < y.From) : Form (O ++ [y]) :=
  ⟨fun x hx => by
    rcases List.mem_append.1 hx with hx | hx
    · exact h.1 x hx
    · rw [List.mem_singleton.1 hx]; exact hy, List.pairwise_append.2 ⟨h.2, List.pairwise_singleton _ _, fun a ha b hb => by rw [List.mem_singleton.1 hb]; exact hl a ha⟩⟩
theorem Form.init {O : List api_Span} {y : api_Span} (h : Form (O ++ [y])) : Form O ∧ (0 ≤ y.From ∧ y.From < y.To) ∧ ∀ a ∈ O, a.To < y.From := by
  have h2 := List.pairwise_append.1 h.2
  exact ⟨⟨fun x hx => h.1 x (List.mem_append_left _ hx), h2.1⟩, h.1 y (by simp), fun a ha => h2.2.2 a ha y (by simp)⟩
theorem spMem_append {p : Int} {l m : List api_Span} : spMem p (l ++ m) ↔ spMem p l ∨ spMem p m := by
  unfold spMem
  constructor
  · rintro ⟨x, hx, h⟩
    rcases List.mem_append.1 hx with hx | hx
    · exact .inl ⟨x, hx, h⟩
    · exact .inr ⟨x, hx, h⟩
  · rintro (⟨x, hx, h⟩ | ⟨x, hx, h⟩)
    · exact ⟨x, List.mem_append_left _ hx, h⟩
    · exact ⟨x, List.mem_append_right _ hx, h⟩
theorem spMem_one {p : Int} {x : api_Span} : spMem p [x] ↔ spIn p x := by
  unfold spMem; simp
theorem join_fold : ∀ (l out : List api_Span), Form out → (∀ y ∈ out, y.To ≤ 9223372036854775807) → (∀ x ∈ l, SpOK x) → Asc l → (∀ O y, out = O ++ [y] → ∀ x ∈ l, y.From ≤ x.From) →
    Form (l.foldl (joinStep 0) out) ∧ (∀ y ∈ l.foldl (joinStep 0) out, y.To ≤ 9223372036854775807) ∧ ∀ p, spMem p (l.foldl (joinStep 0) out) ↔ spMem p out ∨ spMem p l
  | [], out, hf, hb, _, _, _ => ⟨hf, hb, fun p => by simp [spMem]⟩
  | x :: l, out, hf, hb, hok, hasc, hle => by
    have hx := hok x List.mem_cons_self
    have hasc' := List.pairwise_cons.1 hasc
    have hxl : ∀ z ∈ l, x.From ≤ z.From := fun z hz => by
      have := hasc'.1 z hz
      unfold leS at this; omega
    rw [List.foldl_cons]
    rcases List.eq_nil_or_concat out with rfl | ⟨O, y, rfl⟩
    · have e : joinStep 0 [] x = [x] := rfl
      rw [e]
      obtain ⟨h1, h2, h3⟩ := join_fold l [x] ⟨fun z hz => by rw [List.mem_singleton.1 hz]; exact ⟨hx.1, hx.2.1⟩, List.pairwise_singleton _ _⟩ (fun z hz => by rw [List.mem_singleton.1 hz]; exact hx.2.2) (fun z hz => hok z (List.mem_cons_of_mem _ hz)) hasc'.2
        (fun O y e z hz => by
          have : y = x := by
            have := congrArg List.getLast? e
            simpa using this.symm
          rw [this]; exact hxl z hz)
      refine ⟨h1, h2, fun p => ?_⟩
      rw [h3, show x :: l = [x] ++ l from rfl, spMem_append]
      constructor
      · intro h; exact .inr h
      · rintro (⟨_, h, _⟩ | h)
        · cases h
        · exact h
    · rw [List.concat_eq_append] at hf hb hle ⊢
      obtain ⟨f1, f2, f3⟩ := hf.init
      have hyb := hb y (by simp)
      have hyx := hle O y rfl x List.mem_cons_self
      have hx2 := hx.2.1
      have hx3 := hx.2.2
      have hy2 := f2.2
      have hy1 := f2.1
      have hx1 := hx.1
      rw [joinStep_snoc, w64_id (by omega) (by omega)]
      by_cases hc : x.From - y.To ≤ 0
      · rw [if_pos hc]
        have hfo : Form (O ++ [⟨y.From, max y.To x.To⟩]) := f1.snoc ⟨f2.1, by show y.From < max y.To x.To; omega⟩ f3
        obtain ⟨h1, h2, h3⟩ := join_fold l (O ++ [⟨y.From, max y.To x.To⟩]) hfo (fun z hz => by
            rcases List.mem_append.1 hz with hz | hz
            · exact hb z (List.mem_append_left _ hz)
            · rw [List.mem_singleton.1 hz]; show max y.To x.To ≤ 9223372036854775807; have := hx.2.2; omega) (fun z hz => hok z (List.mem_cons_of_mem _ hz)) hasc'.2
          (fun O' y' e z hz => by
            have : y' = ⟨y.From, max y.To x.To⟩ := by
              have := congrArg List.getLast? e
              simpa using this.symm
            rw [this]
            have := hxl z hz
            show y.From ≤ z.From
            omega)
        refine ⟨h1, h2, fun p => ?_⟩
        rw [h3, spMem_append, spMem_append, show x :: l = [x] ++ l from rfl, spMem_append, spMem_one, spMem_one, spMem_one]
        have : spIn p ⟨y.From, max y.To x.To⟩ ↔ spIn p y ∨ spIn p x := by
          unfold spIn
          have h0 := hx.2.1
          have h1 := f2.2
          show (y.From ≤ p ∧ p < max y.To x.To) ↔ _
          omega
        rw [this]
        constructor
        · rintro ((h | h | h) | h)
          · exact .inl (.inl h)
          · exact .inl (.inr h)
          · exact .inr (.inl h)
          · exact .inr (.inr h)
        · rintro ((h | h) | h | h)
          · exact .inl (.inl h)
          · exact .inl (.inr (.inl h))
          · exact .inl (.inr (.inr h))
          · exact .inr h
      · rw [if_neg hc]
        have hfo : Form (O ++ [y] ++ [x]) := hf.snoc ⟨hx.1, hx.2.1⟩ (fun a ha => by
          rcases List.mem_append.1 ha with ha | ha
          · have := f3 a ha; have := f2.2; omega
          · rw [List.mem_singleton.1 ha]; omega)
        obtain ⟨h1, h2, h3⟩ := join_fold l (O ++ [y] ++ [x]) hfo (fun z hz => by
            rcases List.mem_append.1 hz with hz | hz
            · exact hb z hz
            · rw [List.mem_singleton.1 hz]; exact hx.2.2) (fun z hz => hok z (List.mem_cons_of_mem _ hz)) hasc'.2
          (fun O' y' e z hz => by
            have : y' = x := by
              have := congrArg List.getLast? e
              simpa using this.symm
            rw [this]; exact hxl z hz)
        refine ⟨h1, h2, fun p => ?_⟩
        rw [h3, spMem_append, show x :: l = [x] ++ l from rfl, spMem_append (l := [x]), or_assoc]
end Go.AB
end

section
namespace Go.AB
open Go Go.Sort Go.Proofs Go.Shelf
theorem grown_of_pres {G G' : Gh} {w w' : World} (hn : ∀ b, G.O b = .none) (h : Pres G w G' w') : ∃ q os, w' = grow (w.drewN q) os := by
  refine ⟨w'.drawn - w.drawn, w'.heap.extract w.heap.size w'.heap.size, ?_⟩
  have hheap : w'.heap = w.heap ++ w'.heap.extract w.heap.size w'.heap.size := by
    apply Array.ext_getElem?
    intro i
    rcases Nat.lt_or_ge i w.heap.size with hi | hi
    · rw [Array.getElem?_append_left hi]; exact h.frame i hi (.inr (hn i))
    · rw [Array.getElem?_append_right hi, Array.getElem?_extract]
      have e : w.heap.size + (i - w.heap.size) = i := by omega
      rw [e]
      split
      · rfl
      · rename_i h2
        rw [Array.getElem?_eq_none (by omega)]
  have hd := h.drawn
  have ho := h.os
  have ht := h.tape
  have hp := h.output
  generalize w'.heap.extract w.heap.size w'.heap.size = os at hheap
  obtain ⟨hp', tp, dr, o, ou⟩ := w'
  simp only at hheap hd ho ht hp
  subst hheap; subst ho; subst ht; subst hp
  show _ = { w.drewN (dr - w.drawn) with heap := w.heap ++ os }
  unfold World.drewN
  have : w.drawn + (dr - w.drawn) = dr := by omega
  rw [this]
section
variable {P : Program} {f g : FuncId} {α : Type} [Enc α] [Inhabited α] {enc : α → List Value} {k : Nat} {cf : α → α → Int}
theorem lays_of_FE (hfe : ∀ x y : α, FE P g [.agg (Enc.cells x), .agg (Enc.cells y)] noStore [.int .i64 (cf x y)] noStore) (henc : ∀ (w : World) (R : Nat → Nat) (x : α), VR w R (.agg (Enc.cells x)) (.agg (enc x).toArray)) (blk off size : Nat) (w : World) :
    CmpLays P g #[] enc k cf blk off size w := by
  intro m os dk hs x y
  have h := hfe x y ⟨fun _ => 0, fun _ => .none⟩ (sortWorldK enc k w blk off m dk os) #[.agg (enc x).toArray, .agg (enc y).toArray] ⟨fun _ _ => rfl, fun _ _ => rfl⟩ (fun b => .inl rfl) (fun b o h => by cases h)
    ⟨rfl, fun j a v hj hv => by
      match j, hj, hv with
      | 0, hj, hv => cases hj; cases hv; exact henc _ _ x
      | 1, hj, hv => cases hj; cases hv; exact henc _ _ y⟩
  rw [Array.append_empty]
  refine h.mono ?_
  rintro e w' ⟨v, rs, s', G', rfl, ⟨rfl, rfl⟩, _, _, hr, hp⟩
  have hv : v = .int .i64 (cf x y) := VR.inv_int hr.1
  subst hv
  exact ⟨rfl, grown_of_pres (fun _ => rfl) hp⟩
omit [Inhabited α] in
theorem flat_cell (l : List α) (sp : List AV) {i r : Nat} (hi : i < l.length) (hr : r < Enc.w α) : (flat l ++ sp)[i * Enc.w α + r]? = (Enc.cells l[i])[r]? := by
  have hlt : i * Enc.w α + r < (flat l).length := by
    rw [flat_len]
    calc i * Enc.w α + r < (i + 1) * Enc.w α := by rw [Nat.add_mul]; omega
      _ ≤ l.length * Enc.w α := Nat.mul_le_mul_right _ hi
  rw [List.getElem?_append_left hlt]
  have h := flat_sub l (Enc.w α) i 1 rfl
  rw [Nat.one_mul, List.drop_eq_getElem_cons hi] at h
  have h2 : (AB.sub (flat l) (i * Enc.w α) (Enc.w α))[r]? = (Enc.cells l[i])[r]? := by
    rw [h]
    show (flat [l[i]])[r]? = _
    unfold flat
    simp
  rw [sub_get, if_pos hr] at h2
  exact h2
theorem sort_fn (hk : k = Enc.w α) (hlen : ∀ x, (enc x).length = k)
    (hdec : ∀ (w : World) (R : Nat → Nat) (x : α) (vs : List Value), vs.length = k → (∀ (j : Nat) (c : AV) (v : Value), (Enc.cells x)[j]? = some c → vs[j]? = some v → VR w R c v) → vs = enc x)
    (hvr : ∀ (w : World) (R : Nat → Nat) (x : α) (j : Nat) (c : AV) (v : Value), (Enc.cells x)[j]? = some c → (enc x)[j]? = some v → VR w R c v)
    (hcon : ∀ (blk off cap : Nat) (d : Array α) (w : World), HoldsK enc k w blk off d → blk < w.heap.size → d.size < 4611686018427387904 → Calls P f #[.slice (some ⟨blk, off, none⟩) d.size cap, .func (.func g) #[] #[]] w fun e w' =>
      e = .returned (.tuple #[]) ∧ ∃ d' n os, PermIn 0 d.size d d' ∧ SortedIn (ltOf cf) 0 d.size d' ∧ w' = sortWorldK enc k w blk off n d' os)
    {b cap : Nat} {l : List α} {sp : List AV} {s : Store} {Q : List AV → Store → Prop} (hs : s b = some (.cells (flat l ++ sp))) (hc : 0 < cap) (hb : l.length < 4611686018427387904)
    (hq : ∀ l' : List α, l'.Perm l → l'.Pairwise (fun x y => ltOf cf y x = false) → Q [] (s.set b (.cells (flat l' ++ sp)))) : FN P f [.arr b 0 l.length cap, .fn g [] []] s Q := by
  subst hk
  intro G w vs hg ho hst ha
  have hvs : vs = #[.slice (some ⟨b, 0, none⟩) l.length cap, .func (.func g) #[] #[]] := by
    obtain ⟨h1, h2⟩ := ha
    have h1' : vs.size = 2 := h1
    apply Array.ext (by simpa using h1')
    intro i hi1 hi2
    have hi : i < 2 := by omega
    match i, hi with
    | 0, _ => exact VR.inv_arr (h2 0 _ _ rfl (Array.getElem?_eq_getElem (by omega))) hc
    | 1, _ =>
      obtain ⟨vf, vc, e, s1, _, s2, _⟩ := VR.inv_fn (h2 1 _ _ rfl (Array.getElem?_eq_getElem (by omega)))
      rw [e]
      rw [Array.eq_empty_of_size_eq_zero s1, Array.eq_empty_of_size_eq_zero s2]
      rfl
  subst hvs
  obtain ⟨q2, q3, c, t, q4, q5, q6⟩ := hst b _ hs
  have hbl : b < w.heap.size := (Array.getElem?_eq_some_iff.1 q4).1
  have hw0 : 0 < Enc.w α := Enc.pos
  have hcs : c.size = l.length * Enc.w α + sp.length := by rw [q5.1, List.length_append, flat_len]
  have hcell : ∀ i (hi : i < l.length), (c.toList.drop (i * Enc.w α)).take (Enc.w α) = enc l[i] := fun i hi => by
    have hle : i * Enc.w α + Enc.w α ≤ l.length * Enc.w α := by
      rw [← Nat.succ_mul]; exact Nat.mul_le_mul_right _ hi
    refine hdec w G.R l[i] _ (by simp; omega) fun j x v hx hv => ?_
    have hj : j < Enc.w α := by
      have := (List.getElem?_eq_some_iff.1 hv).1
      simp at this; omega
    rw [List.getElem?_take, if_pos hj, List.getElem?_drop] at hv
    exact (q5.2 _ x v (by rw [flat_cell l sp hi hj]; exact hx) (by simpa using hv)).1
  have hget : ∀ (l2 : List α) (i r : Nat) (hi : i < l2.length), r < Enc.w α → (flatK enc (Enc.w α) l2.toArray)[i * Enc.w α + r]! = (enc l2[i])[r]! := fun l2 i r hi hr => by
    rw [get_flatK _ _ _ _ (by
      calc i * Enc.w α + r < (i + 1) * Enc.w α := by rw [Nat.add_mul]; omega
        _ ≤ l2.toArray.size * Enc.w α := Nat.mul_le_mul_right _ (by rw [List.size_toArray]; exact hi))]
    have e1 : (i * Enc.w α + r) / Enc.w α = i := by
      rw [Nat.mul_comm, Nat.mul_add_div hw0, Nat.div_eq_of_lt hr, Nat.add_zero]
    have e2 : (i * Enc.w α + r) % Enc.w α = r := by
      rw [Nat.mul_comm, Nat.mul_add_mod, Nat.mod_eq_of_lt hr]
    rw [e1, e2]
    simp [hi]
  have hH : HoldsK enc (Enc.w α) w b 0 l.toArray := by
    intro j hj
    rw [size_flatK] at hj
    have hj : j < l.length * Enc.w α := by simpa using hj
    have hi : j / Enc.w α < l.length := by
      rw [Nat.div_lt_iff_lt_mul hw0]; exact hj
    have hr : j % Enc.w α < Enc.w α := Nat.mod_lt _ hw0
    have ej : j / Enc.w α * Enc.w α + j % Enc.w α = j := by
      have := Nat.div_add_mod j (Enc.w α)
      rw [Nat.mul_comm] at this; exact this
    refine ⟨?_, ?_⟩
    · rw [Nat.zero_add, cell_of_row w q4]
      have h1 := hcell _ hi
      have h2 : ((c.toList.drop (j / Enc.w α * Enc.w α)).take (Enc.w α))[j % Enc.w α]? = c[j]? := by
        rw [List.getElem?_take, if_pos hr, List.getElem?_drop, ej]; simp
      rw [← h2, h1]
      have h3 := hget l _ _ hi hr
      rw [ej] at h3
      show _ = some ((flatK enc (Enc.w α) l.toArray)[j]!)
      rw [h3]
      have : j % Enc.w α < (enc l[j / Enc.w α]).length := by rw [hlen]; exact hr
      simp [this]
    · unfold World.frozen?
      simp [q4]
  have hcall := hcon b 0 cap l.toArray w hH hbl (by simpa using hb)
  rw [List.size_toArray] at hcall
  refine hcall.mono ?_
  rintro e w' ⟨rfl, d', m, os, hp, hsd, rfl⟩
  obtain ⟨p1, _, p3⟩ := hp
  have p1 : d'.size = l.length := by simpa using p1
  have hperm : d'.toList.Perm l := by
    have e1 : d'.extract 0 l.toArray.size = d' := by rw [List.size_toArray, ← p1]; exact Array.extract_size
    have e2 : l.toArray.extract 0 l.toArray.size = l.toArray := Array.extract_size
    have : (d'.extract 0 l.toArray.size).toList.Perm (l.toArray.extract 0 l.toArray.size).toList := by simpa using p3
    rw [e1, e2] at this
    simpa using this
  obtain ⟨l', rfl⟩ : ∃ l' : List α, d' = l'.toArray := ⟨d'.toList, by simp⟩
  have hl' : l'.length = l.length := by simpa using p1
  have hperm : l'.Perm l := by simpa using hperm
  have hsort : l'.Pairwise (fun x y => ltOf cf y x = false) := by
    rw [List.pairwise_iff_getElem]
    intro i j hi hj hij
    have := hsd i j (Nat.zero_le _) hij (by omega)
    simpa [hi, hj] using this
  -- the world behind
  generalize hF : flatK enc (Enc.w α) l'.toArray = F
  have hFs : F.size = l.length * Enc.w α := by rw [← hF, size_flatK]; simp [hl']
  generalize hw' : sortWorldK enc (Enc.w α) w b 0 m l'.toArray os = w'
  have ew : w' = grow (mapBlock (Go.Sort.ahead w m) b (putCells id 0 F)) os := by rw [← hw', ← hF]; rfl
  have hsz : w.heap.size ≤ w'.heap.size := by rw [ew]; simp [grow, mapBlock, Go.Sort.ahead]
  have hoth : ∀ i, i < w.heap.size → i ≠ b → w'.heap[i]? = w.heap[i]? := fun i hi hib => by
    rw [ew, heap_grow_old _ _ (by simpa [mapBlock, Go.Sort.ahead] using hi)]
    unfold mapBlock
    show ((Go.Sort.ahead w m).heap.modify b _)[i]? = _
    rw [Array.getElem?_modify, if_neg (fun e => hib e.symm)]
    rfl
  have hnew : w'.heap[b]? = some (.cells (putCells id 0 F c) t (0, 0)) := by
    rw [ew, heap_grow_old _ _ (by simpa [mapBlock, Go.Sort.ahead] using hbl)]
    unfold mapBlock
    show ((Go.Sort.ahead w m).heap.modify b _)[b]? = _
    rw [Array.getElem?_modify, if_pos rfl]
    show Option.map _ (w.heap[b]?) = _
    rw [q4]; rfl
  have hpres : Pres G w G w' := by
    refine ⟨by rw [ew]; rfl, by rw [ew]; rfl, by rw [ew]; rfl, by rw [ew]; exact Nat.le_add_right _ _, hsz, fun _ _ => Nat.le_refl _, fun i j hi hj => ?_, fun i hi hof => ?_, fun _ _ h => ⟨h, rfl⟩, fun _ _ h => ⟨h, rfl⟩⟩
    · have hib : i ≠ b := fun e => by subst e; rw [q3] at hj; omega
      exact World.cell?_of_block (hoth i hi hib)
    · exact hoth i hi fun e => by subst e; rw [q2] at hof; rcases hof with h | h <;> cases h
  have hg' : GoodW G w' := ⟨fun i hi => hg.newO i (Nat.le_trans hsz hi), fun i hi => hg.newR i (Nat.le_trans hsz hi)⟩
  have hlt : ∀ i, G.O i ≠ .none → i < w.heap.size := fun i hi => hg.lt hi
  refine ⟨_, [], _, G, rfl, hq l' hperm hsort, hg', fun i o hi => ?_, ⟨#[], rfl, rfl, fun j x y hx => by simp at hx⟩, hpres⟩
  unfold Store.set at hi
  by_cases hib : i = b
  · rw [if_pos hib] at hi; injection hi with hi; subst hi; subst hib
    refine ⟨q2, q3, _, t, hnew, ⟨?_, fun j x y hx hy => ?_⟩, ?_⟩
    · unfold putCells
      rw [Array.size_mapIdx, hcs, List.length_append, flat_len, hl']
    · unfold putCells at hy
      rw [Array.getElem?_mapIdx] at hy
      by_cases hj : j < l.length * Enc.w α
      · have hjc : j < c.size := by omega
        have hi' : j / Enc.w α < l'.length := by rw [Nat.div_lt_iff_lt_mul hw0, hl']; exact hj
        have hr : j % Enc.w α < Enc.w α := Nat.mod_lt _ hw0
        have ej : j / Enc.w α * Enc.w α + j % Enc.w α = j := by
          have := Nat.div_add_mod j (Enc.w α)
          rw [Nat.mul_comm] at this; exact this
        rw [Array.getElem?_eq_getElem hjc] at hy
        simp only [Option.map_some, Nat.zero_le, Nat.zero_add, hFs, hj, and_self, if_true, Nat.sub_zero, id] at hy
        have hx2 : (Enc.cells l'[j / Enc.w α])[j % Enc.w α]? = some x := by
          rw [← flat_cell l' sp hi' hr, ej]; exact hx
        have hy2 : (enc l'[j / Enc.w α])[j % Enc.w α]? = some y := by
          have h3 := hget l' _ _ hi' hr
          rw [ej, hF] at h3
          rw [h3] at hy
          have : j % Enc.w α < (enc l'[j / Enc.w α]).length := by rw [hlen]; exact hr
          simp [this] at hy ⊢
          exact hy
        refine ⟨hvr w' G.R _ _ _ _ hx2 hy2, ?_⟩
        have hxm : x ∈ flat l' := by
          have : j < (flat l').length := by rw [flat_len, hl']; exact hj
          rw [List.getElem?_append_left this] at hx
          exact List.mem_of_getElem? hx
        have hv := flat_views l'
        rw [← hv] at hxm
        obtain ⟨x0, _, rfl⟩ := List.mem_map.1 hxm
        exact OwnR.view ..
      · have hnj : ¬ (0 ≤ j ∧ j < 0 + F.size) := fun h => hj (by have := h.2; omega)
        have hy' : c[j]? = some y := by
          cases hcj : c[j]? with
          | none => rw [hcj] at hy; cases hy
          | some u => rw [hcj] at hy; simp only [Option.map_some, if_neg hnj] at hy; exact hy
        have hx' : (flat l ++ sp)[j]? = some x := by
          rw [List.getElem?_append_right (by rw [flat_len, hl']; omega), flat_len, hl'] at hx
          rw [List.getElem?_append_right (by rw [flat_len]; omega), flat_len]
          exact hx
        obtain ⟨h1, h2⟩ := q5.2 j x y hx' hy'
        exact ⟨hpres.vr hg h1, h2.mono fun i hi => ⟨hi, rfl, hoth i (hlt i (by rw [hi]; simp)) (fun e => by subst e; rw [q2] at hi; cases hi)⟩⟩
    · intro x hx
      rcases List.mem_append.1 hx with hx | hx
      · refine q6 x (List.mem_append_left _ ?_)
        unfold flat at hx ⊢
        rw [List.mem_flatten] at hx ⊢
        obtain ⟨cs, h1, h2⟩ := hx
        obtain ⟨a, h3, rfl⟩ := List.mem_map.1 h1
        exact ⟨_, List.mem_map.2 ⟨a, hperm.mem_iff.1 h3, rfl⟩, h2⟩
      · exact q6 x (List.mem_append_right _ hx)
  · rw [if_neg hib] at hi
    obtain ⟨r1, r2, r3⟩ := hst i o hi
    refine ⟨r1, r2, ?_⟩
    have hbk := hoth i (hlt i (by rw [r1]; simp)) hib
    cases o with
    | cells cs =>
      obtain ⟨c0, t0, r4, r5, r6⟩ := r3
      exact ⟨c0, t0, hbk.trans r4, r5.mono (fun _ _ hv => hpres.vr hg hv) (fun b' j hb' => ⟨hb', rfl, hoth b' (hlt b' (by rw [hb']; simp)) (fun e => by subst e; rw [q2] at hb'; cases hb')⟩), r6⟩
    | map es =>
      obtain ⟨ents, clock, r4, r5, r6⟩ := r3
      exact ⟨ents, clock, hbk.trans r4, r5, fun j x y hx hy => ⟨hpres.vr hg (r6 j x y hx hy).1, hpres.vr hg (r6 j x y hx hy).2⟩⟩
end
end Go.AB
end

section
namespace Go.Proofs
open Go.Shelf
def Tryz.sortSpn_ren : Go.Shelf.Ren := ⟨fun | 6 => 215 | 15 => 244 | 14 => 243 | 28 => 282 | 29 => 283 | 20 => 274 | 21 => 275 | 22 => 276 | 23 => 277 | 24 => 278 | 25 => 279 | 26 => 280 | 27 => 281 | 46 => 318 | 47 => 319 | 48 => 320 | 49 => 321 | 50 => 322 | 57 => 347 | n => n, fun | 22 => 23 | 24 => 114 | 25 => 275 | 3 => 3 | 39 => 306 | 0 => 0 | 53 => 281 | 55 => 348 | 4 => 4 | 46 => 341 | 45 => 340 | 50 => 107 | 5 => 5 | 9 => 9 | 66 => 380 | 70 => 300 | 76 => 405 | 77 => 186 | n => n, fun | n => n⟩
theorem Tryz.sortSpn : Go.Proofs.SlLaysF0.n6 Tryz.prog Tryz.sortSpn_ren := {
  mixed := by kernel_rfl
  f6 := ⟨Tryz.f215.name, by decide, Tryz.func215.trans (congrArg some (by kernel_rfl))⟩
  f14 := ⟨Tryz.f243.name, by decide, Tryz.func243.trans (congrArg some (by kernel_rfl))⟩
  f15 := Tryz.func244.trans (congrArg some (by kernel_rfl))
  f20 := ⟨Tryz.f274.name, by decide, Tryz.func274.trans (congrArg some (by kernel_rfl))⟩
  f21 := ⟨Tryz.f275.name, by decide, Tryz.func275.trans (congrArg some (by kernel_rfl))⟩
  f22 := ⟨Tryz.f276.name, by decide, Tryz.func276.trans (congrArg some (by kernel_rfl))⟩
  f23 := ⟨Tryz.f277.name, by decide, Tryz.func277.trans (congrArg some (by kernel_rfl))⟩
  f24 := ⟨Tryz.f278.name, by decide, Tryz.func278.trans (congrArg some (by kernel_rfl))⟩
  f25 := ⟨Tryz.f279.name, by decide, Tryz.func279.trans (congrArg some (by kernel_rfl))⟩
  f26 := ⟨Tryz.f280.name, by decide, Tryz.func280.trans (congrArg some (by kernel_rfl))⟩
  f27 := ⟨Tryz.f281.name, by decide, Tryz.func281.trans (congrArg some (by kernel_rfl))⟩
  f28 := Tryz.func282.trans (congrArg some (by kernel_rfl))
  f29 := Tryz.func283.trans (congrArg some (by kernel_rfl))
  f46 := ⟨Tryz.f318.name, by decide, Tryz.func318.trans (congrArg some (by kernel_rfl))⟩
  f47 := Tryz.func319.trans (congrArg some (by kernel_rfl))
  f48 := Tryz.func320.trans (congrArg some (by kernel_rfl))
  f49 := ⟨Tryz.f321.name, by decide, Tryz.func321.trans (congrArg some (by kernel_rfl))⟩
  f50 := ⟨Tryz.f322.name, by decide, Tryz.func322.trans (congrArg some (by kernel_rfl))⟩
  f57 := ⟨Tryz.f347.name, by decide, Tryz.func347.trans (congrArg some (by kernel_rfl))⟩
  t0 := Tryz.underlying0
  a0 := Tryz.isAgg0
  z0 := Tryz.sizeOf0
  v0 := Tryz.zeroValue0
  t3 := Tryz.underlying3
  a3 := Tryz.isAgg3
  z3 := Tryz.sizeOf3
  v3 := Tryz.zeroValue3
  t4 := Tryz.underlying4
  a4 := Tryz.isAgg4
  z4 := Tryz.sizeOf4
  v4 := Tryz.zeroValue4
  t5 := Tryz.underlying5
  a5 := Tryz.isAgg5
  z5 := Tryz.sizeOf5
  v5 := Tryz.zeroValue5
  t9 := Tryz.underlying9
  a9 := Tryz.isAgg9
  z9 := Tryz.sizeOf9
  v9 := Tryz.zeroValue9
  t22 := Tryz.underlying23
  a22 := Tryz.isAgg23
  z22 := Tryz.sizeOf23
  v22 := Tryz.zeroValue23
  t25 := Tryz.underlying275
  a25 := Tryz.isAgg275
  z25 := Tryz.sizeOf275
  v25 := Tryz.zeroValue275
  t39 := Tryz.underlying306
  a39 := Tryz.isAgg306
  z39 := Tryz.sizeOf306
  v39 := Tryz.zeroValue306
  t45 := Tryz.underlying340
  a45 := Tryz.isAgg340
  z45 := Tryz.sizeOf340
  v45 := Tryz.zeroValue340
  t46 := Tryz.underlying341
  a46 := Tryz.isAgg341
  z46 := Tryz.sizeOf341
  v46 := Tryz.zeroValue341
  t50 := Tryz.underlying107
  a50 := Tryz.isAgg107
  z50 := Tryz.sizeOf107
  v50 := Tryz.zeroValue107
  t53 := Tryz.underlying281
  a53 := Tryz.isAgg281
  z53 := Tryz.sizeOf281
  v53 := Tryz.zeroValue281
  t55 := Tryz.underlying348
  a55 := Tryz.isAgg348
  z55 := Tryz.sizeOf348
  v55 := Tryz.zeroValue348
  t66 := Tryz.underlying380
  a66 := Tryz.isAgg380
  z66 := Tryz.sizeOf380
  v66 := Tryz.zeroValue380
  t70 := Tryz.underlying300
  a70 := Tryz.isAgg300
  z70 := Tryz.sizeOf300
  v70 := Tryz.zeroValue300
  t76 := Tryz.underlying405
  a76 := Tryz.isAgg405
  z76 := Tryz.sizeOf405
  v76 := Tryz.zeroValue405
  t77 := Tryz.underlying186
  a77 := Tryz.isAgg186
  z77 := Tryz.sizeOf186
  v77 := Tryz.zeroValue186 }
end Go.Proofs
end

section
namespace Go.AB
open Go Go.Sort Go.Proofs Go.Shelf
def cmpI (a b : Int) : Int := if a < b then -1 else if b < a then 1 else 0
def cfS (x y : api_Span) : Int := if cmpI x.From y.From ≠ 0 then cmpI x.From y.From else cmpI x.To y.To
theorem compare_eq (a b : Int) : cmp_Compareint a b = some (cmpI a b) := by
  have e : ∀ x : Int, cmp_isNaNint x = some false := fun x => by
    unfold cmp_isNaNint; simp
  unfold cmp_Compareint
  refine bnd_of (e a) (bnd_of (e b) (if_not (by decide) (if_not (by decide) ?_)))
  unfold cmpI
  by_cases h1 : a < b
  · rw [if_pos h1]; exact if_of (decide_eq_true h1) rfl
  · rw [if_neg h1]
    refine if_not (by simpa using h1) ?_
    by_cases h2 : b < a
    · rw [if_pos h2]; exact if_of (decide_eq_true h2) rfl
    · rw [if_neg h2]; exact if_not (by simpa using h2) rfl
theorem before_eq (x y : api_Span) : span_before x y = some (cfS x y) := by
  refine bnd_of (compare_eq _ _) (bnd_of (compare_eq _ _) (bnd_of (a := cfS x y) ?_ rfl))
  generalize ha : cmpI x.From y.From = a
  generalize hb : cmpI x.To y.To = b
  unfold cmp_Orint cfS
  rw [ha, hb]
  by_cases h1 : a = 0
  · rw [if_neg (by simpa using h1)]
    by_cases h2 : b = 0
    · subst h1; subst h2
      refine jnS_of (z := .inl ()) (bndS_of (z := .inl ()) (iter_cnt 2 (by decide) (fun k hk => ?_) (if_not (by simp) rfl)) rfl) rfl
      match k, hk with
      | 0, _ => exact if_of (by simp) (need_of (by simp) (if_not (by simp [ix]) rfl))
      | 1, _ => exact if_of (by simp) (need_of (by simp) (if_not (by simp [ix]) rfl))
    · subst h1
      refine jnS_of (z := .inr b) (bndS_of (z := .inr b) (iter_cnt 1 (by decide) (fun k hk => ?_) ?_) rfl) rfl
      · match k, hk with
        | 0, _ => exact if_of (by simp) (need_of (by simp) (if_not (by simp [ix]) rfl))
      · exact if_of (by simp) (need_of (by simp) (if_of (by simp [ix, h2]) (by simp [ix])))
  · rw [if_pos h1]
    refine jnS_of (z := .inr a) (bndS_of (z := .inr a) (iter_cnt 0 (by decide) (fun k hk => by omega) ?_) rfl) rfl
    exact if_of (by simp) (need_of (by simp) (if_of (by simp [ix, h1]) (by simp [ix])))
theorem cmpI_lt {a b : Int} (h : a < b) : cmpI a b = -1 := by unfold cmpI; rw [if_pos h]
theorem cmpI_gt {a b : Int} (h : b < a) : cmpI a b = 1 := by unfold cmpI; rw [if_neg (by omega), if_pos h]
theorem cmpI_eq (a : Int) : cmpI a a = 0 := by unfold cmpI; rw [if_neg (by omega), if_neg (by omega)]
theorem ltOf_S (x y : api_Span) : ltOf cfS x y = decide (x.From < y.From ∨ (x.From = y.From ∧ x.To < y.To)) := by
  unfold ltOf
  congr 1
  rw [eq_iff_iff]
  unfold cfS
  rcases Int.lt_trichotomy x.From y.From with h | h | h
  · rw [cmpI_lt h]; simp; exact .inl h
  · rw [h, cmpI_eq]
    rcases Int.lt_trichotomy x.To y.To with k | k | k
    · rw [cmpI_lt k]; simp; exact k
    · rw [k, cmpI_eq]; simp
    · rw [cmpI_gt k]; simp; omega
  · rw [cmpI_gt h]; simp; omega
theorem swo_S : SWO (ltOf cfS) where
  irrefl x := by rw [ltOf_S]; simp
  trans x y z h1 h2 := by rw [ltOf_S] at *; simp at *; omega
  ntrans x y z h1 h2 := by rw [ltOf_S] at *; simp at *; omega
def encS (x : api_Span) : List Value := [.int .i64 x.From, .int .i64 x.To]
instance : Inhabited api_Span := ⟨⟨0, 0⟩⟩
theorem vr_S (w : World) (R : Nat → Nat) (x : api_Span) (j : Nat) (c : AV) (v : Value) (hc : (Enc.cells x)[j]? = some c) (hv : (encS x)[j]? = some v) : VR w R c v := by
  match j, hc, hv with
  | 0, hc, hv => cases hc; cases hv; exact .int _ _
  | 1, hc, hv => cases hc; cases hv; exact .int _ _
theorem dec_S (w : World) (R : Nat → Nat) (x : api_Span) (vs : List Value) (hl : vs.length = 2) (h : ∀ (j : Nat) (c : AV) (v : Value), (Enc.cells x)[j]? = some c → vs[j]? = some v → VR w R c v) : vs = encS x := by
  match vs, hl with
  | [a, b], _ =>
    have h0 := VR.inv_int (h 0 _ a rfl rfl)
    have h1 := VR.inv_int (h 1 _ b rfl rfl)
    rw [h0, h1]; rfl
theorem lays_S (blk off size : Nat) (w : World) : CmpLays Tryz.prog 216 #[] encS 2 cfS blk off size w :=
  lays_of_FE (fun x y => span_before_fe (before_eq x y)) (fun w R x => .agg _ _ (fun c hc => by
    rcases List.mem_cons.1 hc with rfl | hc
    · rfl
    · rcases List.mem_cons.1 hc with rfl | hc
      · rfl
      · cases hc) rfl fun j c v hc hv => vr_S w R x j c v hc (by simpa using hv)) blk off size w
theorem sort_calls (blk off cap : Nat) (d : Array api_Span) (w : World) (hH : HoldsK encS 2 w blk off d) (hblk : blk < w.heap.size) (hsz : d.size < 4611686018427387904) :
    Calls Tryz.prog 215 #[.slice (some ⟨blk, off, none⟩) d.size cap, .func (.func 216) #[] #[]] w fun e w' =>
      e = .returned (.tuple #[]) ∧ ∃ d' n os, PermIn 0 d.size d d' ∧ SortedIn (ltOf cfS) 0 d.size d' ∧ w' = sortWorldK encS 2 w blk off n d' os := by
  have eg : ∀ args w, (callFunc 216 args).run Tryz.prog w = .ok (.enter 216 args) w := enters_of Tryz.func216 (by kernel_rfl) rfl
  exact AnyQ.slices_SortFunc Tryz.sortSpn 2 Tryz.isAgg114 Tryz.sizeOf114 encS (fun _ => rfl) (fun x v hv => by simp [encS] at hv; rcases hv with rfl | rfl <;> rfl) cfS swo_S 216 #[] blk off cap d w eg (lays_S blk off d.size w) hH hblk hsz
theorem sortSpn_row {b cap : Nat} {l : List api_Span} {sp : List AV} {s : Store} {Q : List AV → Store → Prop} (hs : s b = some (.cells (flat l ++ sp))) (hc : 0 < cap) (hb : l.length < 4611686018427387904)
    (hq : ∀ l' : List api_Span, l'.Perm l → Asc l' → Q [] (s.set b (.cells (flat l' ++ sp)))) : FN Tryz.prog 215 [.arr b 0 l.length cap, .fn 216 [] []] s Q :=
  sort_fn rfl (fun _ => rfl) dec_S vr_S sort_calls hs hc hb fun l' h1 h2 => hq l' h1 (h2.imp fun {x y} h => by
    rw [ltOf_S] at h
    unfold leS
    simp at h
    omega)
end Go.AB
end

section
set_option maxRecDepth 4000
namespace Go.AB
open Go
def ir_InsSpn : IC :=
 (.seq (.reg none [mv 10 1,
 i1 11 (.bin .add (.t 10) (.c (.int .i64 1))),
 mv 8 11] [0, 1, 2, 3, 8])
 (.block 0 (.loop [(0, false), (1, false), (2, false), (3, false), (8, false)] (.seq (.seq (.reg none [mv 12 8,
 mv 13 2,
 i1 14 (.bin .lss (.t 12) (.t 13))] [0, 1, 2, 3, 8, 14])
 (.cond (.t 14) .skip
 (.exit 0)))
 (.seq (.block 1 (.seq (.reg none [mv 17 8,
 mv 9 17] [0, 1, 2, 3, 8, 9])
 (.block 2 (.loop [(0, false), (1, false), (2, false), (3, false), (8, false), (9, false)] (.seq (.seq (.reg (some 17) [mv 18 9,
 mv 19 1,
 i1 20 (.bin .gtr (.t 18) (.t 19)),
 mv 21 20,
 mvg 22 3 21 true,
 mvg 23 0 21 true,
 mvg 24 9 21 true,
 i1g 25 21 true (.indexAddr [.int .i64 0, .int .i64 0] (.t 23) (.t 24)),
 i1g 26 21 true (.load 2 true (.t 25)),
 mvg 27 0 21 true,
 mvg 28 9 21 true,
 i1g 29 21 true (.bin .sub (.t 28) (.c (.int .i64 1))),
 i1g 30 21 true (.indexAddr [.int .i64 0, .int .i64 0] (.t 27) (.t 29)),
 i1g 31 21 true (.load 2 true (.t 30)),
 i1g 32 21 true (.callv (.t 22) [(.t 26), (.t 31)]),
 i1g 33 21 true (.bin .lss (.t 32) (.c (.int .i64 0))),
 i1 34 (.pick (.t 21) (.t 33) (.c (.bool false)))] [0, 1, 2, 3, 8, 9, 34])
 (.cond (.t 34) .skip
 (.exit 2)))
 (.seq (.block 3 (.regB [] [(0, 0, mv 37 0),
 (0, 1, mv 38 9),
 (1, 2, mv 39 0),
 (1, 3, mv 40 9),
 (1, 4, i1 41 (.bin .sub (.t 40) (.c (.int .i64 1)))),
 (0, 5, mv 42 0),
 (0, 6, mv 43 9),
 (0, 7, i1 44 (.bin .sub (.t 43) (.c (.int .i64 1)))),
 (0, 8, i1 45 (.indexAddr [.int .i64 0, .int .i64 0] (.t 42) (.t 44))),
 (0, 9, i1 46 (.load 2 true (.t 45))),
 (0, 10, mv 47 0),
 (0, 11, mv 48 9),
 (0, 12, i1 49 (.indexAddr [.int .i64 0, .int .i64 0] (.t 47) (.t 48))),
 (0, 13, i1 50 (.load 2 true (.t 49))),
 (0, 14, i1 51 (.indexAddr [.int .i64 0, .int .i64 0] (.t 37) (.t 38))),
 (2, 15, i0 (.store 2 (.t 51) (.t 46))),
 (0, 16, i1 52 (.indexAddr [.int .i64 0, .int .i64 0] (.t 39) (.t 41))),
 (2, 17, i0 (.store 2 (.t 52) (.t 50)))] [0, 1, 2, 3, 8, 9]))
 (.reg none [mv 35 9,
 i1 36 (.bin .sub (.t 35) (.c (.int .i64 1))),
 mv 9 36] [0, 1, 2, 3, 8, 9])))))))
 (.reg none [mv 15 8,
 i1 16 (.bin .add (.t 15) (.c (.int .i64 1))),
 mv 8 16] [0, 1, 2, 3, 8]))))))
def res_InsSpn : List IRes := []
theorem is_InsSpn : fnIs Go.Proofs.Tryz.prog 274 53 res_InsSpn ir_InsSpn = true := by kernel_rfl
def ir_PdqSpn : IC :=
 (.seq (.reg none [i1 10 (.mov false (.c (.bool true)))] [0, 1, 2, 3, 4, 10])
 (.seq (.reg none [i1 11 (.mov false (.c (.bool true)))] [0, 1, 2, 3, 4, 10, 11])
 (.block 0 (.loop [(0, false), (1, false), (2, false), (3, false), (4, false), (10, false), (11, false)] (.block 1 (.seq (.reg none [mv 21 2,
 mv 22 1,
 i1 23 (.bin .sub (.t 21) (.t 22)),
 mv 12 23] [0, 1, 2, 3, 4, 10, 11, 12])
 (.seq (.seq (.reg none [mv 24 12,
 i1 25 (.bin .leq (.t 24) (.c (.int .i64 12)))] [0, 1, 2, 3, 4, 10, 11, 12, 25])
 (.cond (.t 25) (.seq (.reg none [mv 26 0,
 mv 27 1,
 mv 28 2,
 mv 29 4,
 i1 30 (.call 274 [(.t 26), (.t 27), (.t 28), (.t 29)])] [])
 .ret)
 .skip))
 (.seq (.seq (.reg none [mv 31 3,
 i1 32 (.bin .eql (.t 31) (.c (.int .i64 0)))] [0, 1, 2, 3, 4, 10, 11, 12, 32])
 (.cond (.t 32) (.seq (.reg none [mv 33 0,
 mv 34 1,
 mv 35 2,
 mv 36 4,
 i1 37 (.call 275 [(.t 33), (.t 34), (.t 35), (.t 36)])] [])
 .ret)
 .skip))
 (.seq (.seq (.reg none [mv 38 10,
 i1 39 (.un .not (.t 38))] [0, 1, 2, 3, 4, 10, 11, 12, 39])
 (.cond (.t 39) (.seq (.reg none [mv 40 0,
 mv 41 1,
 mv 42 2,
 mv 43 4,
 i1 44 (.call 276 [(.t 40), (.t 41), (.t 42), (.t 43)])] [0, 1, 2, 3, 4, 10, 11, 12])
 (.reg none [mv 45 3,
 i1 46 (.bin .sub (.t 45) (.c (.int .i64 1))),
 mv 3 46] [0, 1, 2, 3, 4, 10, 11, 12]))
 .skip))
 (.seq (.reg none [mv 48 0,
 mv 49 1,
 mv 50 2,
 mv 51 4,
 i1 52 (.call 277 [(.t 48), (.t 49), (.t 50), (.t 51)]),
 mv 47 52,
 i1 53 (.extract (.t 47) 0),
 i1 54 (.extract (.t 47) 1),
 mv 13 53,
 mv 14 54] [0, 1, 2, 3, 4, 10, 11, 12, 13, 14])
 (.seq (.seq (.reg none [mv 55 14,
 i1 56 (.bin .eql (.t 55) (.c (.int .i64 2)))] [0, 1, 2, 3, 4, 10, 11, 12, 13, 14, 56])
 (.cond (.t 56) (.seq (.reg none [mv 57 0,
 mv 58 1,
 mv 59 2,
 mv 60 4,
 i1 61 (.call 278 [(.t 57), (.t 58), (.t 59), (.t 60)])] [0, 1, 2, 3, 4, 10, 11, 12, 13])
 (.seq (.reg none [mv 62 2,
 i1 63 (.bin .sub (.t 62) (.c (.int .i64 1))),
 mv 64 13,
 mv 65 1,
 i1 66 (.bin .sub (.t 64) (.t 65)),
 i1 67 (.bin .sub (.t 63) (.t 66)),
 mv 13 67] [0, 1, 2, 3, 4, 10, 11, 12, 13])
 (.reg none [i1 14 (.mov false (.c (.int .i64 1)))] [0, 1, 2, 3, 4, 10, 11, 12, 13, 14])))
 .skip))
 (.seq (.seq (.reg none [mv 68 10,
 mv 69 68,
 mvg 70 11 69 true,
 i1 71 (.pick (.t 69) (.t 70) (.c (.bool false))),
 mv 72 71,
 mvg 73 14 72 true,
 i1g 74 72 true (.bin .eql (.t 73) (.c (.int .i64 1))),
 i1 75 (.pick (.t 72) (.t 74) (.c (.bool false)))] [0, 1, 2, 3, 4, 10, 11, 12, 13, 75])
 (.cond (.t 75) (.seq (.reg none [mv 76 0,
 mv 77 1,
 mv 78 2,
 mv 79 4,
 i1 80 (.call 279 [(.t 76), (.t 77), (.t 78), (.t 79)])] [0, 1, 2, 3, 4, 10, 11, 12, 13, 80])
 (.cond (.t 80) .ret
 .skip))
 .skip))
 (.seq (.seq (.reg (some 17) [mv 81 1,
 i1 82 (.bin .gtr (.t 81) (.c (.int .i64 0))),
 mv 83 82,
 mvg 84 4 83 true,
 mvg 85 0 83 true,
 mvg 86 1 83 true,
 i1g 87 83 true (.bin .sub (.t 86) (.c (.int .i64 1))),
 i1g 88 83 true (.indexAddr [.int .i64 0, .int .i64 0] (.t 85) (.t 87)),
 i1g 89 83 true (.load 2 true (.t 88)),
 mvg 90 0 83 true,
 mvg 91 13 83 true,
 i1g 92 83 true (.indexAddr [.int .i64 0, .int .i64 0] (.t 90) (.t 91)),
 i1g 93 83 true (.load 2 true (.t 92)),
 i1g 94 83 true (.callv (.t 84) [(.t 89), (.t 93)]),
 i1g 95 83 true (.bin .lss (.t 94) (.c (.int .i64 0))),
 i1g 96 83 true (.un .not (.t 95)),
 i1 97 (.pick (.t 83) (.t 96) (.c (.bool false)))] [0, 1, 2, 3, 4, 10, 11, 12, 13, 97])
 (.cond (.t 97) (.seq (.reg none [mv 98 0,
 mv 99 1,
 mv 100 2,
 mv 101 13,
 mv 102 4,
 i1 103 (.call 280 [(.t 98), (.t 99), (.t 100), (.t 101), (.t 102)]),
 mv 15 103] [0, 2, 3, 4, 10, 11, 15])
 (.seq (.reg none [mv 104 15,
 mv 1 104] [0, 1, 2, 3, 4, 10, 11])
 (.exit 1)))
 .skip))
 (.seq (.reg none [mv 106 0,
 mv 107 1,
 mv 108 2,
 mv 109 13,
 mv 110 4,
 i1 111 (.call 281 [(.t 106), (.t 107), (.t 108), (.t 109), (.t 110)]),
 mv 105 111,
 i1 112 (.extract (.t 105) 0),
 i1 113 (.extract (.t 105) 1),
 mv 16 112,
 mv 17 113] [0, 1, 2, 3, 4, 12, 16, 17])
 (.seq (.reg none [mv 114 17,
 mv 11 114] [0, 1, 2, 3, 4, 11, 12, 16])
 (.seq (.reg none [mv 115 16,
 mv 116 1,
 i1 117 (.bin .sub (.t 115) (.t 116)),
 mv 118 2,
 mv 119 16,
 i1 120 (.bin .sub (.t 118) (.t 119)),
 mv 18 117,
 mv 19 120] [0, 1, 2, 3, 4, 11, 12, 16, 18, 19])
 (.seq (.reg none [mv 121 12,
 i1 122 (.bin .quo (.t 121) (.c (.int .i64 8))),
 mv 20 122] [0, 1, 2, 3, 4, 11, 16, 18, 19, 20])
 (.seq (.reg none [mv 123 18,
 mv 124 19,
 i1 125 (.bin .lss (.t 123) (.t 124))] [0, 1, 2, 3, 4, 11, 16, 18, 19, 20, 125])
 (.cond (.t 125) (.seq (.reg none [mv 126 18,
 mv 127 20,
 i1 128 (.bin .geq (.t 126) (.t 127)),
 mv 10 128] [0, 1, 2, 3, 4, 10, 11, 16])
 (.seq (.reg none [mv 129 0,
 mv 130 1,
 mv 131 16,
 mv 132 3,
 mv 133 4,
 i1 134 (.call 243 [(.t 129), (.t 130), (.t 131), (.t 132), (.t 133)])] [0, 2, 3, 4, 10, 11, 16])
 (.reg none [mv 135 16,
 i1 136 (.bin .add (.t 135) (.c (.int .i64 1))),
 mv 1 136] [0, 1, 2, 3, 4, 10, 11])))
 (.seq (.reg none [mv 137 19,
 mv 138 20,
 i1 139 (.bin .geq (.t 137) (.t 138)),
 mv 10 139] [0, 1, 2, 3, 4, 10, 11, 16])
 (.seq (.reg none [mv 140 0,
 mv 141 16,
 i1 142 (.bin .add (.t 141) (.c (.int .i64 1))),
 mv 143 2,
 mv 144 3,
 mv 145 4,
 i1 146 (.call 243 [(.t 140), (.t 142), (.t 143), (.t 144), (.t 145)])] [0, 1, 3, 4, 10, 11, 16])
 (.reg none [mv 147 16,
 mv 2 147] [0, 1, 2, 3, 4, 10, 11]))))))))))))))))))))))
def res_PdqSpn : List IRes := []
theorem is_PdqSpn : fnIs Go.Proofs.Tryz.prog 243 148 res_PdqSpn ir_PdqSpn = true := by kernel_rfl
def ir_SortSpn : IC :=
 (.seq (.reg none [mv 5 0,
 i1 6 (.len 0 (.t 5)),
 mv 4 6] [0, 1, 4])
 (.reg none [mv 7 0,
 mv 8 4,
 mv 9 4,
 i1 10 (.cvtInt .u64 (.t 9)),
 i1 11 (.call 244 [(.t 10)]),
 mv 12 1,
 i1 13 (.call 243 [(.t 7), (.c (.int .i64 0)), (.t 8), (.t 11), (.t 12)])] []))
def res_SortSpn : List IRes := []
theorem is_SortSpn : fnIs Go.Proofs.Tryz.prog 215 14 res_SortSpn ir_SortSpn = true := by kernel_rfl
theorem bitsLen0 {s : Store} {Q : List AV → Store → Prop} (hq : Q [.int .i64 0] s) : FN Go.Proofs.Tryz.prog 244 [.int .u64 0] s Q := by
  intro G w vs hg ho hst ha
  have hvs : vs = #[.int .u64 0] := by
    obtain ⟨h1, h2⟩ := ha
    have h1' : vs.size = 1 := h1
    apply Array.ext (by simpa using h1')
    intro i hi1 hi2
    have hi : i < 1 := by omega
    match i, hi with
    | 0, _ => exact VR.inv_int (h2 0 _ _ rfl (Array.getElem?_eq_getElem (by omega)))
  subst hvs
  have h := Go.Proofs.Any.bits_Len (Go.Proofs.SlLaysF0.n15.bits (P := Go.Proofs.Tryz.prog) (ρ := Go.Proofs.Tryz.sortSpn_ren) { Go.Proofs.Tryz.sortSpn with }) 0 w (by omega) (by omega)
  refine h.mono ?_
  rintro e w' ⟨rfl, rfl⟩
  exact ⟨_, [.int .i64 0], s, G, rfl, hq, hg, hst, ⟨.int _ _, trivial⟩, Pres.refl G w'⟩
theorem insSpn_nil {b off : Nat} {s : Store} {Q : List AV → Store → Prop} (hq : Q [] s) : FN Go.Proofs.Tryz.prog 274 [.arr b off 0 0, .int .i64 0, .int .i64 0, .fn 216 [] []] s Q := by
  refine FN.of (draw_ok mix) is_InsSpn rfl (Nat.le_of_ble_eq_true rfl) ?_
  rw [ir_InsSpn, res_InsSpn]
  simp -implicitDefEqProofs only [go_sem, start, startE, resVs, resV, resC, allV, retK, Nat.reduceBEq, Nat.reduceAdd, Nat.reduceMul, Nat.reduceLeDiff, Nat.reduceEqDiff, Nat.reduceBNe, Nat.ble_eq, UInt8.reduceToNat]
  refine ⟨fun τ => τ = _, fun _ => 0, rfl, ?_⟩
  rintro τ rfl
  simp -implicitDefEqProofs only [go_sem, start, startE, resVs, resV, resC, allV, retK, Nat.reduceBEq, Nat.reduceAdd, Nat.reduceMul, Nat.reduceLeDiff, Nat.reduceEqDiff, Nat.reduceBNe, Nat.ble_eq, UInt8.reduceToNat, show w64 (0 + 1) = 1 from by decide]
  refine ⟨fun h => absurd (of_decide_eq_true h) (by decide), fun _ => ?_⟩
  first | exact hq | (simp -implicitDefEqProofs only [go_sem, start, startE, resVs, resV, resC, allV, retK, Nat.reduceBEq, Nat.reduceAdd, Nat.reduceMul, Nat.reduceLeDiff, Nat.reduceEqDiff, Nat.reduceBNe, Nat.ble_eq, UInt8.reduceToNat]; exact hq)
theorem pdqSpn_nil {b off : Nat} {r : Int} {s : Store} {Q : List AV → Store → Prop} (hq : Q [] s) : FN Go.Proofs.Tryz.prog 243 [.arr b off 0 0, .int .i64 0, .int .i64 0, .int .i64 r, .fn 216 [] []] s Q := by
  refine FN.of (draw_ok mix) is_PdqSpn rfl (Nat.le_of_ble_eq_true rfl) ?_
  rw [ir_PdqSpn, res_PdqSpn]
  simp -implicitDefEqProofs only [go_sem, start, startE, resVs, resV, resC, allV, retK, Nat.reduceBEq, Nat.reduceAdd, Nat.reduceMul, Nat.reduceLeDiff, Nat.reduceEqDiff, Nat.reduceBNe, Nat.ble_eq, UInt8.reduceToNat]
  refine ⟨fun τ => τ = _, fun _ => 0, rfl, ?_⟩
  rintro τ rfl
  simp -implicitDefEqProofs only [go_sem, start, startE, resVs, resV, resC, allV, retK, Nat.reduceBEq, Nat.reduceAdd, Nat.reduceMul, Nat.reduceLeDiff, Nat.reduceEqDiff, Nat.reduceBNe, Nat.ble_eq, UInt8.reduceToNat, show w64 (0 - 0) = 0 from by decide]
  refine ⟨fun _ => insSpn_nil ?_, fun h => absurd (of_decide_eq_false h) (by decide)⟩
  simp -implicitDefEqProofs only [go_sem, start, startE, resVs, resV, resC, allV, retK, Nat.reduceBEq, Nat.reduceAdd, Nat.reduceMul, Nat.reduceLeDiff, Nat.reduceEqDiff, Nat.reduceBNe, Nat.ble_eq, UInt8.reduceToNat]
  exact hq
theorem sortSpn_nil {b off : Nat} {s : Store} {Q : List AV → Store → Prop} (hq : Q [] s) : FN Go.Proofs.Tryz.prog 215 [.arr b off 0 0, .fn 216 [] []] s Q := by
  refine FN.of (draw_ok mix) is_SortSpn rfl (Nat.le_of_ble_eq_true rfl) ?_
  rw [ir_SortSpn, res_SortSpn]
  simp -implicitDefEqProofs only [go_sem, start, startE, resVs, resV, resC, allV, retK, Nat.reduceBEq, Nat.reduceAdd, Nat.reduceMul, Nat.reduceLeDiff, Nat.reduceEqDiff, Nat.reduceBNe, Nat.ble_eq, UInt8.reduceToNat]
  refine bitsLen0 ?_
  simp -implicitDefEqProofs only [go_sem, start, startE, resVs, resV, resC, allV, retK, Nat.reduceBEq, Nat.reduceAdd, Nat.reduceMul, Nat.reduceLeDiff, Nat.reduceEqDiff, Nat.reduceBNe, Nat.ble_eq, UInt8.reduceToNat]
  refine pdqSpn_nil ?_
  simp -implicitDefEqProofs only [go_sem, start, startE, resVs, resV, resC, allV, retK, Nat.reduceBEq, Nat.reduceAdd, Nat.reduceMul, Nat.reduceLeDiff, Nat.reduceEqDiff, Nat.reduceBNe, Nat.ble_eq, UInt8.reduceToNat]
  exact hq
end Go.AB
end

section
namespace Go.AB
open Go
theorem setAt_last (O : List api_Span) (y : api_Span) (sp : List AV) (v : Int) : setAt (flat (O ++ [y]) ++ sp) (O.length * 2 + 1) [AV.int .i64 v] = flat (O ++ [⟨y.From, v⟩]) ++ sp := by
  have e : flat (O ++ [⟨y.From, v⟩]) ++ sp = setAt (flat (O ++ [y]) ++ sp) (O.length * 2) (flat [(⟨y.From, v⟩ : api_Span)]) := by
    have := row_set (O ++ [y]) [⟨y.From, v⟩] sp 2 O.length rfl (by simp)
    rw [this]
    simp
  rw [e]
  have hl : O.length * 2 + 2 ≤ (flat (O ++ [y]) ++ sp).length := by
    rw [List.length_append, flat_len]
    show O.length * 2 + 2 ≤ (O ++ [y]).length * 2 + _
    simp; omega
  apply List.ext_getElem?
  intro j
  rw [setAt_get _ _ _ _ (by show O.length * 2 + 1 + 1 ≤ _; omega), setAt_get _ _ _ _ (by show O.length * 2 + 2 ≤ _; exact hl)]
  show (if O.length * 2 + 1 ≤ j ∧ j < O.length * 2 + 1 + 1 then _ else _) = if O.length * 2 ≤ j ∧ j < O.length * 2 + 2 then _ else _
  by_cases h1 : j = O.length * 2 + 1
  · subst h1
    rw [if_pos (by omega), if_pos (by omega), Nat.sub_self, show O.length * 2 + 1 - O.length * 2 = 1 by omega]; rfl
  · rw [if_neg (by omega)]
    by_cases h2 : j = O.length * 2
    · subst h2
      rw [if_pos (by omega), Nat.sub_self]
      have := flat_cell2 (O ++ [y]) sp (i := O.length) (by simp) (r := 0) (by decide)
      rw [Nat.add_zero] at this
      have e2 : (O ++ [y])[O.length]'(by simp) = y := by simp
      rw [e2] at this
      exact this
    · rw [if_neg (by omega)]
theorem last_cell (O : List api_Span) (y : api_Span) (sp : List AV) : (flat (O ++ [y]) ++ sp)[O.length * 2 + 1]? = some (.int .i64 y.To) := by
  have := flat_cell2 (O ++ [y]) sp (i := O.length) (by simp) (r := 1) (by decide)
  have e : (O ++ [y])[O.length]'(by simp) = y := by simp
  rw [e] at this
  exact this
theorem last_fit (O : List api_Span) (y : api_Span) (sp : List AV) : O.length * 2 + 1 + 1 ≤ (flat (O ++ [y]) ++ sp).length := by
  rw [List.length_append, flat_len]
  show O.length * 2 + 2 ≤ (O ++ [y]).length * 2 + _
  simp; omega
end Go.AB
end

section
set_option maxRecDepth 4000
namespace Go.AB
open Go
def ir_Join_tail : IC := (.seq (.reg none [i1 6 (.mov false (.c (.arr 0 0 0 0)))] [1, 5, 6])
 (.seq (.seq (.reg none [mv 17 5,
 i1 18 (.len 0 (.t 17)),
 i1 19 (.mov false (.c (.int .i64 0)))] [1, 6, 17, 18, 19])
 (.block 0 (.loop [(1, false), (6, false), (17, false), (18, false), (19, false)] (.seq (.reg none [i1 20 (.bin .lss (.t 19) (.t 18))] [1, 6, 17, 18, 19, 20])
 (.seq (.cond (.t 20) .skip
 (.exit 0))
 (.seq (.block 1 (.seq (.reg none [i1 21 (.indexAddr [.int .i64 0, .int .i64 0] (.t 17) (.t 19)),
 i1 22 (.loadR [.int .i64 0, .int .i64 0] true (.t 21)),
 i1 8 (.allocL [.int .i64 0, .int .i64 0]),
 i0 (.store 2 (.t 8) (.t 22))] [1, 6, 8, 17, 18, 19])
 (.seq (.seq (.reg none [mv 23 6,
 i1 24 (.len 0 (.t 23)),
 mv 9 24] [1, 6, 8, 9, 17, 18, 19])
 (.seq (.reg (some 15) [mv 25 9,
 i1 26 (.bin .gtr (.t 25) (.c (.int .i64 0))),
 mv 27 26,
 i1g 28 27 true (.fieldAddr 0 (.t 8)),
 i1g 29 27 true (.load 1 false (.t 28)),
 mvg 30 6 27 true,
 mvg 31 9 27 true,
 i1g 32 27 true (.bin .sub (.t 31) (.c (.int .i64 1))),
 i1g 33 27 true (.indexAddr [.int .i64 0, .int .i64 0] (.t 30) (.t 32)),
 i1g 34 27 true (.fieldAddr 1 (.t 33)),
 i1g 35 27 true (.loadI .i64 (.t 34)),
 i1g 36 27 true (.bin .sub (.t 29) (.t 35)),
 mvg 37 1 27 true,
 i1g 38 27 true (.bin .leq (.t 36) (.t 37)),
 i1 39 (.pick (.t 27) (.t 38) (.c (.bool false)))] [1, 6, 8, 9, 17, 18, 19, 39])
 (.cond (.t 39) (.seq (.reg (some 14) [mv 40 6,
 mv 41 9,
 i1 42 (.bin .sub (.t 41) (.c (.int .i64 1))),
 mv 43 6,
 mv 44 9,
 i1 45 (.bin .sub (.t 44) (.c (.int .i64 1))),
 i1 46 (.indexAddr [.int .i64 0, .int .i64 0] (.t 43) (.t 45)),
 i1 47 (.fieldAddr 1 (.t 46)),
 i1 48 (.loadI .i64 (.t 47)),
 i1 49 (.fieldAddr 1 (.t 8)),
 i1 50 (.load 1 false (.t 49)),
 i1 51 (.minmax true [(.t 48), (.t 50)]),
 i1 52 (.indexAddr [.int .i64 0, .int .i64 0] (.t 40) (.t 42)),
 i1 53 (.fieldAddr 1 (.t 52)),
 i0 (.store 1 (.t 53) (.t 51))] [1, 6, 17, 18, 19])
 (.exit 1))
 .skip)))
 (.reg none [mv 54 6,
 i1 55 (.load 2 true (.t 8)),
 i1 56 (.buildSl 2 1 [.int .i64 0, .int .i64 0] [(0, 2, (.t 55))]),
 i1 57 (.appendA 2 16 [.int .i64 0, .int .i64 0] (.t 54) (.t 56)),
 mv 6 57] [1, 6, 17, 18, 19]))))
 (.reg none [i1 58 (.bin .add (.t 19) (.c (.int .i64 1))),
 mv 19 58] [1, 6, 17, 18, 19])))))))
 (.seq (.reg none [mv 59 6,
 i1 4 (.frz 2 true (.t 59))] [4])
 .ret)))
def ir_span_Join : IC :=
 (.seq (.reg none [i1 4 (.mov true (.c (.sl true 2 0 [])))] [0, 1])
 (.seq (.reg none [mv 10 1,
 i1 11 (.minmax true [(.c (.int .i64 0)), (.t 10)]),
 mv 1 11] [0, 1])
 (.seq (.reg none [mt 12 0,
 i1 13 (.call 180 [(.t 12)]),
 i1 14 (.callU 214 13 [(.t 13), (.c (.fn 167 [] []))]),
 mv 5 14] [1, 5])
 (.seq (.reg none [mv 15 5,
 i1 16 (.call 215 [(.t 15), (.c (.fn 216 [] []))])] [1, 5])
 ir_Join_tail))))
def res_span_Join : List IRes := [⟨4, true, none⟩]
theorem is_span_Join : fnIs Go.Proofs.Tryz.prog 169 60 res_span_Join ir_span_Join = true := by kernel_rfl
theorem joinStep_len (gap : Int) (out : List api_Span) (x : api_Span) : (joinStep gap out x).length ≤ out.length + 1 ∧ 0 < (joinStep gap out x).length := by
  unfold joinStep
  split
  · simp
  · split
    · simp
    · simp
theorem joinL_len (gap : Int) : ∀ (l out : List api_Span), (l.foldl (joinStep gap) out).length ≤ out.length + l.length
  | [], out => by simp
  | x :: l, out => by
    have h1 := joinL_len gap l (joinStep gap out x)
    have h2 := (joinStep_len gap out x).1
    simp only [List.foldl_cons, List.length_cons]; omega
theorem join_tail {b off cap : Nat} {F : List api_Span} {s1 : Store} {gap : Int} {Q : List AV → Store → Prop} (hF : 0 < F.length → off = 0 ∧ ∃ sp, s1 b = some (.cells (flat F ++ sp))) (hl : F.length * 16 ≤ room)
    (hq : ∀ s', Sub s1 s' → Q [.sl true 2 (joinL gap F).length (flat (joinL gap F))] s') : cwp Go.Proofs.Tryz.prog ir_Join_tail (retK res_span_Join Q) ⟨[(1, .int .i64 gap), (5, .arr b off F.length cap)], [], s1⟩ := by
  have hl' := hl
  unfold room at hl'
  rw [ir_Join_tail, res_span_Join]
  simp -implicitDefEqProofs only [go_sem, start, startE, resVs, resV, resC, allV, retK, Nat.reduceBEq, Nat.reduceAdd, Nat.reduceMul, Nat.reduceLeDiff, Nat.reduceEqDiff, Nat.reduceBNe, Nat.ble_eq, UInt8.reduceToNat]
  refine ⟨fun τ => ∃ (k : Nat) (s' : Store) (r : RowP), τ = ⟨[(1, .int .i64 gap), (6, rowA r ((F.take k).foldl (joinStep gap) []).length), (17, .arr b off F.length cap), (18, .int .i64 (F.length : Nat)), (19, .int .i64 (k : Nat))], [], rowS s' r ((F.take k).foldl (joinStep gap) [])⟩ ∧ k ≤ F.length ∧ Sub s1 s' ∧ RowOK s' r ((F.take k).foldl (joinStep gap) []),
    fun τ => match look τ.e 19 with | .int _ j => F.length - j.toNat | _ => 0, ⟨0, s1, none, rfl, Nat.zero_le _, Sub.refl _, rfl⟩, ?_⟩
  rintro τ ⟨k, s', r, rfl, hk, hs, hok⟩
  have hol := joinL_len gap (F.take k) []
  rw [List.length_take] at hol
  simp only [List.length_nil] at hol
  generalize hO : (F.take k).foldl (joinStep gap) [] = O at hok hol
  simp -implicitDefEqProofs only [go_sem, start, startE, resVs, resV, resC, allV, retK, Nat.reduceBEq, Nat.reduceAdd, Nat.reduceMul, Nat.reduceLeDiff, Nat.reduceEqDiff, Nat.reduceBNe, Nat.ble_eq, UInt8.reduceToNat]
  refine ⟨fun hkl => ?_, fun hkl => ?_⟩
  · have hkl : k < F.length := by have := of_decide_eq_true hkl; omega
    obtain ⟨rfl, sp, hb⟩ := hF (by omega)
    have hb' := rowS_get hok (hs b _ hb)
    have hx : views (AB.sub (flat F ++ sp) (k * 2) 2) = [.int .i64 (F[k]).From, .int .i64 (F[k]).To] := by
      have := row_sub F sp 2 k 1 rfl (by omega)
      rw [Nat.one_mul] at this
      rw [this, List.drop_eq_getElem_cons hkl]; rfl
    have hfit : decide (k * 2 + 2 ≤ (flat F).length + sp.length) = true := decide_eq_true (by rw [flat_len]; show k * 2 + 2 ≤ F.length * 2 + _; omega)
    simp -implicitDefEqProofs only [go_sem, start, startE, resVs, resV, resC, allV, retK, Nat.reduceBEq, Nat.reduceAdd, Nat.reduceMul, Nat.reduceLeDiff, Nat.reduceEqDiff, Nat.reduceBNe, Nat.ble_eq, UInt8.reduceToNat, hb', hx, hfit]
    have hw1 : w64 ((k : Int) + 1) = ((k + 1 : Nat) : Int) := by rw [w64_id (by omega) (by omega)]; omega
    have hstep : (F.take (k + 1)).foldl (joinStep gap) [] = joinStep gap O F[k] := by
      rw [List.take_succ_eq_append_getElem hkl, List.foldl_append, hO]; rfl
    refine ⟨⟨by omega, by omega⟩, of_decide_eq_true hfit, ?_⟩
    have hmin : min k F.length = k := by omega
    rw [hmin] at hol
    have hroom : (O.length + 1) * 16 ≤ room := by unfold room; omega
    rcases List.eq_nil_or_concat O with rfl | ⟨O, y, rfl⟩
    · have e0 : decide ((([] : List api_Span).length : Int) > 0) = false := by decide
      have hj : joinStep gap [] F[k] = [] ++ [F[k]] := rfl
      rw [e0]
      refine ⟨fun h => (by cases h), fun h => (by cases h), fun h => (by cases h), fun _ => ?_⟩
      rw [srcV_sl]
      refine app_row (z := api_Span.mk 0 0) (v := F[k]) rfl hok rfl hroom fun s2 r' h1 h2 => ?_
      simp -implicitDefEqProofs only [go_sem, start, startE, resVs, resV, resC, allV, retK, Nat.reduceBEq, Nat.reduceAdd, Nat.reduceMul, Nat.reduceLeDiff, Nat.reduceEqDiff, Nat.reduceBNe, Nat.ble_eq, UInt8.reduceToNat, hw1]
      refine ⟨⟨k + 1, s2, r', ?_, hkl, fun b o hb => h1 b o (hs b o hb), ?_⟩, by omega⟩
      · rw [hstep, hj]; rfl
      · rw [hstep, hj]; exact h2
    · rw [List.concat_eq_append] at hok hol hO hstep hroom ⊢
      rw [joinStep_snoc] at hstep
      have hlen3 : (O ++ [y]).length = O.length + 1 := by simp
      have hw : w64 (((O ++ [y]).length : Int) - 1) = (O.length : Int) := by rw [hlen3, w64_id (by omega) (by omega)]; omega
      have e0 : decide (((O ++ [y]).length : Int) > 0) = true := decide_eq_true (by omega)
      obtain ⟨b2, cap2, sp2, rfl⟩ := row_at hok (by simp)
      have hget : rowS s' (some (b2, cap2, sp2)) (O ++ [y]) b2 = some (.cells (flat (O ++ [y]) ++ sp2)) := set_at
      have hcell := last_cell O y sp2
      have hcc : loadIc .i64 (O.length * 2 + 1) (some (.cells (flat (O ++ [y]) ++ sp2))) := ⟨_, hcell⟩
      have hvv : loadIv (O.length * 2 + 1) (some (.cells (flat (O ++ [y]) ++ sp2))) = y.To := by
        show intOf _ = _
        rw [hcell]; rfl
      rw [hw, e0, Int.toNat_natCast, show rowB (some (b2, cap2, sp2)) = b2 from rfl, hget, hvv, Bool.true_and]
      refine ⟨fun _ => ⟨by omega, by omega⟩, fun _ => hcc, fun he => ⟨⟨by omega, by omega⟩, hcc, ⟨by omega, by omega⟩, ?_⟩, fun he => ?_⟩
      · have he := of_decide_eq_true he
        rw [if_pos he] at hstep
        have hlen2 : (O ++ [(⟨y.From, max y.To (F[k]).To⟩ : api_Span)]).length = O.length + 1 := by simp
        show stK none _ (wrS _ b2 (wrCells (O.length * 2 + 1) [AV.int .i64 (max y.To (F[k]).To)] (flat (O ++ [y]) ++ sp2)))
        unfold wrCells
        rw [decide_eq_true (show O.length * 2 + 1 + [AV.int .i64 (max y.To (F[k]).To)].length ≤ _ from last_fit O y sp2), setAt_last]
        generalize hX : flat (O ++ [(⟨y.From, max y.To (F[k]).To⟩ : api_Span)]) ++ sp2 = X
        simp -implicitDefEqProofs only [go_sem, start, startE, resVs, resV, resC, allV, retK, Nat.reduceBEq, Nat.reduceAdd, Nat.reduceMul, Nat.reduceLeDiff, Nat.reduceEqDiff, Nat.reduceBNe, Nat.ble_eq, UInt8.reduceToNat, hw1]
        have e : (rowS s' (some (b2, cap2, sp2)) (O ++ [y])).set b2 (.cells X) = rowS s' (some (b2, cap2, sp2)) (O ++ [(⟨y.From, max y.To (F[k]).To⟩ : api_Span)]) := by
          rw [← hX]; exact set_set ..
        refine ⟨⟨k + 1, s', some (b2, cap2, sp2), ?_, hkl, hs, ?_⟩, by omega⟩
        · rw [hstep, e, hlen2]; rfl
        · rw [hstep]; exact row_upd hok (by rw [hlen2, hlen3])
      · have he := of_decide_eq_false he
        rw [if_neg he] at hstep
        rw [srcV_sl]
        refine app_row (z := api_Span.mk 0 0) (v := F[k]) rfl hok rfl hroom fun s2 r' h1 h2 => ?_
        simp -implicitDefEqProofs only [go_sem, start, startE, resVs, resV, resC, allV, retK, Nat.reduceBEq, Nat.reduceAdd, Nat.reduceMul, Nat.reduceLeDiff, Nat.reduceEqDiff, Nat.reduceBNe, Nat.ble_eq, UInt8.reduceToNat, hw1]
        have hlen2 : (O ++ [y] ++ [F[k]]).length = O.length + 1 + 1 := by simp
        refine ⟨⟨k + 1, s2, r', ?_, hkl, fun b o hb => h1 b o (hs b o hb), ?_⟩, by omega⟩
        · rw [hstep, hlen2]
        · rw [hstep]; exact h2
  · have hkl : k = F.length := by have := of_decide_eq_false hkl; omega
    subst hkl
    rw [List.take_length] at hO
    have hO' : joinL gap F = O := hO
    rw [hO'] at hq
    refine frz_row (s := s') (r := r) (l := O) rfl hok rfl ?_
    simp -implicitDefEqProofs only [go_sem, start, startE, resVs, resV, resC, allV, retK, Nat.reduceBEq, Nat.reduceAdd, Nat.reduceMul, Nat.reduceLeDiff, Nat.reduceEqDiff, Nat.reduceBNe, Nat.ble_eq, UInt8.reduceToNat]
    exact hq s' hs
def leB (x y : api_Span) : Bool := decide (x.From < y.From ∨ (x.From = y.From ∧ x.To ≤ y.To))
def srt (l : List api_Span) : List api_Span := l.mergeSort leB
theorem srt_asc (l : List api_Span) : Asc (srt l) := by
  have h := List.pairwise_mergeSort (le := leB) (fun a b c h1 h2 => by unfold leB at *; simp at *; omega) (fun a b => by unfold leB; simp; omega) l
  exact h.imp fun {a b} h => by unfold leB at h; unfold leS; simpa using h
theorem asc_unique : ∀ {l m : List api_Span}, l.Perm m → Asc l → Asc m → l = m
  | [], m, hp, _, _ => (List.nil_perm.1 hp).symm
  | x :: l, [], hp, _, _ => by have := hp.length_eq; simp at this
  | x :: l, y :: m, hp, hl, hm => by
    have hxm : x ∈ y :: m := hp.mem_iff.1 List.mem_cons_self
    have hyl : y ∈ x :: l := hp.mem_iff.2 List.mem_cons_self
    have e : x = y := by
      rcases List.mem_cons.1 hxm with h | h
      · exact h
      · rcases List.mem_cons.1 hyl with h' | h'
        · exact h'.symm
        · have h1 := (List.pairwise_cons.1 hm).1 x h
          have h2 := (List.pairwise_cons.1 hl).1 y h'
          obtain ⟨a, b⟩ := x; obtain ⟨c, d⟩ := y
          unfold leS at h1 h2
          simp only at h1 h2
          have e1 : a = c := by omega
          have e2 : b = d := by omega
          rw [e1, e2]
    subst e
    rw [asc_unique (List.Perm.cons_inv hp) (List.pairwise_cons.1 hl).2 (List.pairwise_cons.1 hm).2]
def span_Join (l : List api_Span) (gap : Int) : Option (List api_Span) := need (l.length * 16 ≤ room) (some (joinL (max 0 gap) (srt (full l))))
theorem span_Join_fn {l : List api_Span} {gap : Int} {s : Store} {Q : List AV → Store → Prop} (h : ok (span_Join l gap) fun r => Q [.sl true 2 r.length (flat r)] s) : FN Go.Proofs.Tryz.prog 169 [.sl false 2 l.length (flat l), .int .i64 gap] s Q := by
  unfold span_Join at h
  rw [ok_need, ok_some] at h
  obtain ⟨hr, hq⟩ := h
  have hfull : (full l).length ≤ l.length := List.length_filter_le _ _
  have hsl : (srt (full l)).length = (full l).length := List.length_mergeSort _
  refine FN.weak ?_
  refine FN.of (draw_ok mix) is_span_Join rfl (Nat.le_of_ble_eq_true rfl) ?_
  rw [ir_span_Join, res_span_Join]
  simp -implicitDefEqProofs only [go_sem, start, startE, resVs, resV, resC, allV, retK, Nat.reduceBEq, Nat.reduceAdd, Nat.reduceMul, Nat.reduceLeDiff, Nat.reduceEqDiff, Nat.reduceBNe, Nat.ble_eq, UInt8.reduceToNat]
  refine FE.app (cloneSpn_us hr) ?_
  simp -implicitDefEqProofs only [go_sem, start, startE, resVs, resV, resC, allV, retK, Nat.reduceBEq, Nat.reduceAdd, Nat.reduceMul, Nat.reduceLeDiff, Nat.reduceEqDiff, Nat.reduceBNe, Nat.ble_eq, UInt8.reduceToNat]
  refine ⟨fun b cap sp hb h0 hn hl hf hv => ?_, fun hn b off => ?_⟩
  · simp -implicitDefEqProofs only [go_sem, start, startE, resVs, resV, resC, allV, retK, Nat.reduceBEq, Nat.reduceAdd, Nat.reduceMul, Nat.reduceLeDiff, Nat.reduceEqDiff, Nat.reduceBNe, Nat.ble_eq, UInt8.reduceToNat]
    refine delSpn_row hr set_at hn hl fun sp' hl' => ?_
    simp -implicitDefEqProofs only [go_sem, start, startE, resVs, resV, resC, allV, retK, Nat.reduceBEq, Nat.reduceAdd, Nat.reduceMul, Nat.reduceLeDiff, Nat.reduceEqDiff, Nat.reduceBNe, Nat.ble_eq, UInt8.reduceToNat]
    have hfc : (full l).length ≤ cap := by omega
    refine sortSpn_row set_at h0 (by unfold room at hr; omega) fun F hp hasc => ?_
    simp -implicitDefEqProofs only [go_sem, start, startE, resVs, resV, resC, allV, retK, Nat.reduceBEq, Nat.reduceAdd, Nat.reduceMul, Nat.reduceLeDiff, Nat.reduceEqDiff, Nat.reduceBNe, Nat.ble_eq, UInt8.reduceToNat]
    have hF : F = srt (full l) := asc_unique (hp.trans (List.mergeSort_perm _ _).symm) hasc (srt_asc _)
    have hFl : F.length = (full l).length := by rw [hF, hsl]
    rw [← hFl]
    refine join_tail (fun _ => ⟨rfl, sp', ?_⟩) (by omega) fun s' hs' => ?_
    · exact set_at
    · rw [hF]
      refine ⟨s, fun b' o' h' => hs' b' o' ?_, hq⟩
      have hb : s b = none := hb
      have hne : b' ≠ b := fun e => by rw [e, hb] at h'; cases h'
      unfold Store.set
      rw [if_neg hne]; exact h'
  · have hl0 : l = [] := List.eq_nil_of_length_eq_zero hn
    subst hl0
    simp -implicitDefEqProofs only [go_sem, start, startE, resVs, resV, resC, allV, retK, Nat.reduceBEq, Nat.reduceAdd, Nat.reduceMul, Nat.reduceLeDiff, Nat.reduceEqDiff, Nat.reduceBNe, Nat.ble_eq, UInt8.reduceToNat]
    refine delSpn_nil ?_
    simp -implicitDefEqProofs only [go_sem, start, startE, resVs, resV, resC, allV, retK, Nat.reduceBEq, Nat.reduceAdd, Nat.reduceMul, Nat.reduceLeDiff, Nat.reduceEqDiff, Nat.reduceBNe, Nat.ble_eq, UInt8.reduceToNat]
    refine sortSpn_nil ?_
    simp -implicitDefEqProofs only [go_sem, start, startE, resVs, resV, resC, allV, retK, Nat.reduceBEq, Nat.reduceAdd, Nat.reduceMul, Nat.reduceLeDiff, Nat.reduceEqDiff, Nat.reduceBNe, Nat.ble_eq, UInt8.reduceToNat]
    refine join_tail (F := []) (fun h => (by simp at h)) (by simp) fun s' hs' => ?_
    have e0 : srt (full []) = [] := List.eq_nil_of_length_eq_zero (by rw [hsl]; rfl)
    rw [e0] at hq
    exact ⟨s, hs', hq⟩
end Go.AB
end

section
set_option maxRecDepth 4000
namespace Go.AB
open Go
attribute [-go_sem] Nat.add_zero ge_0 part_zero
def ir_Set_All : IC :=
 (.seq (.reg none [i1 2 (.mov true (.c (.sl true 2 0 [])))] [0])
 (.seq (.seq (.reg none [mv 3 0,
 i1 4 (.eqP false (.t 3) (.c (.nilp)))] [0, 4])
 (.cond (.t 4) (.seq (.reg none [i1 2 (.mov true (.c (.sl true 2 0 [])))] [2])
 .ret)
 .skip))
 (.seq (.reg none [mv 5 0,
 i1 6 (.nilCheck (.t 5)),
 i1 7 (.fieldAddr 0 (.t 6)),
 i1 8 (.load 1 false (.t 7)),
 i1 9 (.call 180 [(.t 8)]),
 mt 2 9] [2])
 .ret)))
def res_Set_All : List IRes := [⟨2, true, none⟩]
theorem is_Set_All : fnIs Go.Proofs.Tryz.prog 129 10 res_Set_All ir_Set_All = true := by kernel_rfl
def ir_Set_Upto : IC :=
 (.seq (.reg none [i1 4 (.mov false (.c (.int .i64 0)))] [0, 1])
 (.seq (.seq (.reg none [mv 7 0,
 i1 8 (.call 129 [(.t 7)]),
 i1 9 (.len 0 (.t 8)),
 i1 10 (.mov false (.c (.int .i64 0)))] [1, 8, 9, 10])
 (.block 0 (.loop [(1, false), (8, false), (9, false), (10, false)] (.seq (.reg none [i1 11 (.bin .lss (.t 10) (.t 9))] [1, 8, 9, 10, 11])
 (.seq (.cond (.t 11) .skip
 (.exit 0))
 (.seq (.block 1 (.seq (.reg none [i1 12 (.indexAddr [.int .i64 0, .int .i64 0] (.t 8) (.t 10)),
 i1 13 (.load 2 true (.t 12)),
 i1 6 (.allocL [.int .i64 0, .int .i64 0]),
 i0 (.store 2 (.t 6) (.t 13))] [1, 6, 8, 9, 10])
 (.seq (.reg none [i1 14 (.fieldAddr 0 (.t 6)),
 i1 15 (.load 1 false (.t 14)),
 mv 16 1,
 i1 17 (.bin .leq (.t 15) (.t 16)),
 mv 18 17,
 mvg 19 1 18 true,
 i1g 20 18 true (.fieldAddr 1 (.t 6)),
 i1g 21 18 true (.load 1 false (.t 20)),
 i1g 22 18 true (.bin .lss (.t 19) (.t 21)),
 i1 23 (.pick (.t 18) (.t 22) (.c (.bool false)))] [1, 6, 8, 9, 10, 23])
 (.cond (.t 23) (.seq (.reg none [i1 24 (.fieldAddr 1 (.t 6)),
 i1 25 (.load 1 false (.t 24)),
 mv 4 25] [4])
 .ret)
 .skip))))
 (.reg none [i1 26 (.bin .add (.t 10) (.c (.int .i64 1))),
 mv 10 26] [1, 8, 9, 10])))))))
 (.seq (.reg none [mv 27 1,
 mv 4 27] [4])
 .ret)))
def res_Set_Upto : List IRes := [⟨4, true, none⟩]
theorem is_Set_Upto : fnIs Go.Proofs.Tryz.prog 75 28 res_Set_Upto ir_Set_Upto = true := by kernel_rfl
def ir_Set_Put : IC :=
 (.seq (.reg none [i1 3 (.boxL 2 (.t 1))] [0, 3])
 (.seq (.reg none [mv 4 0,
 i1 5 (.eqP true (.t 4) (.c (.nilp)))] [0, 3, 5])
 (.cond (.t 5) (.regB [] [(1, 0, mv 6 0),
 (1, 1, mv 7 0),
 (1, 2, i1 8 (.nilCheck (.t 7))),
 (1, 3, i1 9 (.fieldAddr 0 (.t 8))),
 (1, 5, i1 11 (.load 2 true (.t 3))),
 (1, 6, i1 12 (.buildSl 2 1 [.int .i64 0, .int .i64 0] [(0, 2, (.t 11))])),
 (2, 4, i1 10 (.loadD (.t 9))),
 (1, 7, i1 13 (.append 2 16 (.t 10) (.t 12))),
 (2, 8, i1 14 (.call 169 [(.t 13), (.c (.int .i64 0))])),
 (1, 9, i1 15 (.nilCheck (.t 6))),
 (1, 10, i1 16 (.fieldAddr 0 (.t 15))),
 (3, 11, i0 (.store 1 (.t 16) (.t 14)))] [])
 .skip)))
def res_Set_Put : List IRes := []
theorem is_Set_Put : fnIs Go.Proofs.Tryz.prog 124 17 res_Set_Put ir_Set_Put = true := by kernel_rfl
def ir_Set_Missing1 : IC :=
 (.seq (.reg none [i1 4 (.load 1 false (.t 1)),
 mv 5 0,
 i1 6 (.bin .lss (.t 4) (.t 5))] [0, 1, 2, 6])
 (.cond (.t 6) (.reg none [i1 7 (.loadD (.t 2)),
 i1 8 (.load 1 false (.t 1)),
 mv 9 0,
 i1 10 (.build [.int .i64 0, .int .i64 0] [(0, 1, (.t 8)), (1, 1, (.t 9))]),
 i1 11 (.buildSl 2 1 [.int .i64 0, .int .i64 0] [(0, 2, (.t 10))]),
 i1 12 (.append 2 16 (.t 7) (.t 11)),
 i0 (.store 1 (.t 2) (.t 12))] [])
 .skip))
def res_Set_Missing1 : List IRes := []
theorem is_Set_Missing1 : fnIs Go.Proofs.Tryz.prog 168 13 res_Set_Missing1 ir_Set_Missing1 = true := by kernel_rfl
def ir_Set_Missing : IC :=
 (.seq (.reg none [i1 3 (.boxL 2 (.t 1)),
 i1 4 (.mov true (.c (.sl true 2 0 [])))] [0, 3])
 (.seq (.seq (.reg none [i1 10 (.load 2 true (.t 3)),
 i1 11 (.call 167 [(.t 10)])] [0, 3, 11])
 (.cond (.t 11) (.seq (.reg none [i1 4 (.mov true (.c (.sl true 2 0 [])))] [4])
 .ret)
 .skip))
 (.seq (.reg none [i1 5 (.allocS [.sl true 2 0 []])] [0, 3, 5])
 (.seq (.reg none [i1 12 (.fieldAddr 0 (.t 3)),
 i1 13 (.load 1 false (.t 12)),
 i1 6 (.allocS [.int .i64 0]),
 i0 (.store 1 (.t 6) (.t 13))] [0, 3, 5, 6])
 (.seq (.reg none [i1 14 (.makeFn 168 [] [(.t 6), (.t 5)]),
 mv 7 14] [0, 3, 5, 6, 7])
 (.seq (.seq (.reg none [mv 15 0,
 i1 16 (.call 129 [(.t 15)]),
 i1 17 (.len 0 (.t 16)),
 i1 18 (.mov false (.c (.int .i64 0)))] [3, 5, 6, 7, 16, 17, 18])
 (.block 0 (.loop [(3, false), (5, false), (6, false), (7, false), (16, false), (17, false), (18, false)] (.seq (.reg none [i1 19 (.bin .lss (.t 18) (.t 17))] [3, 5, 6, 7, 16, 17, 18, 19])
 (.seq (.cond (.t 19) .skip
 (.exit 0))
 (.seq (.block 1 (.seq (.reg none [i1 20 (.indexAddr [.int .i64 0, .int .i64 0] (.t 16) (.t 18)),
 i1 21 (.load 2 true (.t 20)),
 i1 9 (.allocL [.int .i64 0, .int .i64 0]),
 i0 (.store 2 (.t 9) (.t 21))] [3, 5, 6, 7, 9, 16, 17, 18])
 (.seq (.reg none [mv 22 7,
 i1 23 (.fieldAddr 0 (.t 9)),
 i1 24 (.load 1 false (.t 23)),
 i1 25 (.fieldAddr 1 (.t 3)),
 i1 26 (.load 1 false (.t 25)),
 i1 27 (.minmax false [(.t 24), (.t 26)]),
 i1 28 (.callv (.t 22) [(.t 27)])] [3, 5, 6, 7, 9, 16, 17, 18])
 (.reg none [i1 29 (.load 1 false (.t 6)),
 i1 30 (.fieldAddr 1 (.t 9)),
 i1 31 (.load 1 false (.t 30)),
 i1 32 (.fieldAddr 1 (.t 3)),
 i1 33 (.load 1 false (.t 32)),
 i1 34 (.minmax false [(.t 31), (.t 33)]),
 i1 35 (.minmax true [(.t 29), (.t 34)]),
 i0 (.store 1 (.t 6) (.t 35))] [3, 5, 6, 7, 16, 17, 18]))))
 (.reg none [i1 36 (.bin .add (.t 18) (.c (.int .i64 1))),
 mv 18 36] [3, 5, 6, 7, 16, 17, 18])))))))
 (.seq (.reg none [mv 37 7,
 i1 38 (.fieldAddr 1 (.t 3)),
 i1 39 (.load 1 false (.t 38)),
 i1 40 (.callv (.t 37) [(.t 39)])] [5])
 (.seq (.reg none [i1 41 (.load 1 false (.t 5)),
 mt 4 41] [4])
 .ret))))))))
def res_Set_Missing : List IRes := [⟨4, false, none⟩]
theorem is_Set_Missing : fnIs Go.Proofs.Tryz.prog 122 42 res_Set_Missing ir_Set_Missing = true := by kernel_rfl
abbrev slv (l : List api_Span) : AV := .sl true 2 l.length (flat l)
abbrev slw (l : List api_Span) : AV := .sl false 2 l.length (flat l)
def SetAt (s : Store) (b off : Nat) (cs : List AV) (l : List api_Span) : Prop := s b = some (.cells cs) ∧ cs[off]? = some (slv l)
theorem sub_at {cs : List AV} {off : Nat} {a : AV} (h : cs[off]? = some a) : off + 1 ≤ cs.length ∧ sub cs off 1 = [a] := by
  obtain ⟨h1, h2⟩ := List.getElem?_eq_some_iff.1 h
  refine ⟨h1, ?_⟩
  unfold sub
  rw [List.drop_eq_getElem_cons h1, h2]; rfl
@[go_sem] theorem brTake_r (s : Store) (C : AV → Store → Prop) (b off : Nat) : brTake s C (.ref b off) = brTakeO b off s C (s b) := rfl
@[go_sem] theorem brTakeO_cells (b off : Nat) (s : Store) (C : AV → Store → Prop) (cs : List AV) : brTakeO b off s C (some (.cells cs)) = takeC off cs fun cs' a => C a (s.set b (.cells cs')) := rfl
theorem takeC_at {cs : List AV} {off : Nat} {l : List api_Span} {k : List AV → AV → Prop} (h : cs[off]? = some (slv l)) : takeC off cs k = k (setAt cs off [slw l]) (slv l) := by
  unfold takeC; rw [h]
theorem takeC_at0 {cs : List AV} {off : Nat} {l : List api_Span} {k : List AV → AV → Prop} (h : cs[off]? = some (slv l)) : takeC (off + 0) cs k = k (setAt cs off [slw l]) (slv l) := takeC_at h
theorem setAt_twice {cs : List AV} {off : Nat} {x y : AV} (h : off < cs.length) : setAt (setAt cs off [x]) off [y] = setAt cs off [y] := by
  have hl : ∀ z, off < (setAt cs off [z]).length := fun z => by rw [setAt_len _ _ _ (show off + [z].length ≤ cs.length from h)]; exact h
  apply List.ext_getElem?
  intro j
  rw [setAt_one _ _ _ (hl x), setAt_one _ _ _ h, setAt_one _ _ _ h]
  by_cases e : j = off <;> simp [e]
theorem ldv_at {cs : List AV} {off : Nat} {l : List api_Span} (h : cs[off]? = some (slv l)) : loadV false (bif decide (off + 0 + 1 ≤ cs.length) then some (views (sub cs (off + 0) 1)) else none) = .tot (slw l) := by
  obtain ⟨h1, h2⟩ := sub_at h
  show loadV false (bif decide (off + 1 ≤ cs.length) then some (views (sub cs off 1)) else none) = _
  rw [h2, decide_eq_true h1]; rfl
theorem cloneSpn_fn {o : Bool} {l : List api_Span} {s : Store} {Q : List AV → Store → Prop} (hr : l.length * 16 ≤ room) (hq : Q [slv l] s) : FN Go.Proofs.Tryz.prog 180 [.sl o 2 l.length (flat l)] s Q := by
  refine FN.row_sl (s2 := s) (flat_len l) (flat_views l) hq (FN.mono (cloneSpn_arr hr) fun rs s' h => ?_)
  rcases h with ⟨b, cap, sp, h1, h2, h3, h4, h5, h6, h7⟩ | ⟨h1, h2, h3⟩
  · exact .inl ⟨b, cap, sp, h1, by rw [h7]; exact set_at, h3, h4, h5, by rw [h7, del_set h2]; exact Sub.refl s⟩
  · subst h1; exact .inr ⟨rfl, rfl, by rw [h2]; exact Sub.refl s, h3⟩
def Set_All (l : List api_Span) : Option (List api_Span) := need (l.length * 16 ≤ room) (some l)
theorem Set_All_fn {s : Store} {b off : Nat} {cs : List AV} {l : List api_Span} {Q : List AV → Store → Prop} (hb : SetAt s b off cs l) : ok (Set_All l) (fun r => Q [slv r] s) → FN Go.Proofs.Tryz.prog 129 [.ref b off] s Q := by
  intro hh
  refine FN.weak (FN.of (draw_ok mix) is_Set_All rfl (Nat.le_of_ble_eq_true rfl) ?_)
  unfold Set_All at hh
  revert hh
  rw [ir_Set_All, res_Set_All]
  simp -implicitDefEqProofs only [go_sem, start, startE, resVs, resV, resC, allV, retK, Nat.reduceBEq, Nat.reduceAdd, Nat.reduceMul, Nat.reduceLeDiff, Nat.reduceEqDiff, Nat.reduceBNe, Nat.ble_eq, UInt8.reduceToNat, UInt32.reduceToNat, hb.1]
  rintro ⟨hr, hq⟩
  refine ⟨fun h => h.elim, fun _ => ?_⟩
  rw [ldv_at hb.2]
  simp -implicitDefEqProofs only [go_sem, start, startE, resVs, resV, resC, allV, retK, Nat.reduceBEq, Nat.reduceAdd, Nat.reduceMul, Nat.reduceLeDiff, Nat.reduceEqDiff, Nat.reduceBNe, Nat.ble_eq, UInt8.reduceToNat, UInt32.reduceToNat]
  refine cloneSpn_fn hr ?_
  simp -implicitDefEqProofs only [go_sem, start, startE, resVs, resV, resC, allV, retK, Nat.reduceBEq, Nat.reduceAdd, Nat.reduceMul, Nat.reduceLeDiff, Nat.reduceEqDiff, Nat.reduceBNe, Nat.ble_eq, UInt8.reduceToNat, UInt32.reduceToNat]
  exact ⟨s, Sub.refl s, hq⟩
theorem Set_All_nil {s : Store} {Q : List AV → Store → Prop} (hq : Q [slv []] s) : FN Go.Proofs.Tryz.prog 129 [.nilp] s Q := by
  refine FN.weak (FN.of (draw_ok mix) is_Set_All rfl (Nat.le_of_ble_eq_true rfl) ?_)
  rw [ir_Set_All, res_Set_All]
  simp -implicitDefEqProofs only [go_sem, start, startE, resVs, resV, resC, allV, retK, Nat.reduceBEq, Nat.reduceAdd, Nat.reduceMul, Nat.reduceLeDiff, Nat.reduceEqDiff, Nat.reduceBNe, Nat.ble_eq, UInt8.reduceToNat, UInt32.reduceToNat]
  exact ⟨fun _ => ⟨s, Sub.refl s, hq⟩, fun h => by cases h⟩
def uptoB (l : List api_Span) (at_ : Int) (k : Int) : Option (Int ⊕ Int) :=
  if decide (k < (l.length : Int)) then
    need (0 ≤ k ∧ k < l.length) <|
    if (decide ((ix l k).From ≤ at_)) && (decide (at_ < (ix l k).To)) then some (.inr (ix l k).To) else some (.inl (w64 (k + 1)))
  else some (.inr at_)
def Set_Upto (l : List api_Span) (at_ : Int) : Option Int := bnd (Set_All l) fun l => iter (uptoB l at_) 0
theorem Set_Upto_fn {s : Store} {b off : Nat} {cs : List AV} {l : List api_Span} {at_ : Int} {Q : List AV → Store → Prop} (hb : SetAt s b off cs l) : ok (Set_Upto l at_) (fun r => Q [.int .i64 r] s) → FN Go.Proofs.Tryz.prog 75 [.ref b off, .int .i64 at_] s Q := by
  intro hh
  refine FN.weak (FN.of (draw_ok mix) is_Set_Upto rfl (Nat.le_of_ble_eq_true rfl) ?_)
  revert hh
  rw [ir_Set_Upto, res_Set_Upto, Set_Upto]
  simp -implicitDefEqProofs only [go_sem, start, startE, resVs, resV, resC, allV, retK, Nat.reduceBEq, Nat.reduceAdd, Nat.reduceMul, Nat.reduceLeDiff, Nat.reduceEqDiff, Nat.reduceBNe, Nat.ble_eq, UInt8.reduceToNat, UInt32.reduceToNat]
  intro hh
  refine Set_All_fn hb ?_
  refine ok_mono hh fun l' => ?_
  simp -implicitDefEqProofs only [go_sem, start, startE, resVs, resV, resC, allV, retK, Nat.reduceBEq, Nat.reduceAdd, Nat.reduceMul, Nat.reduceLeDiff, Nat.reduceEqDiff, Nat.reduceBNe, Nat.ble_eq, UInt8.reduceToNat, UInt32.reduceToNat]
  refine iter_to (fun k => ⟨[(1, .int .i64 at_), (8, slv l'), (9, .int .i64 (l'.length : Nat)), (10, .int .i64 k)], [], s⟩) rfl ?_
  intro J k
  rw [uptoB]
  simp -implicitDefEqProofs only [go_sem, start, startE, resVs, resV, resC, allV, retK, Nat.reduceBEq, Nat.reduceAdd, Nat.reduceMul, Nat.reduceLeDiff, Nat.reduceEqDiff, Nat.reduceBNe, Nat.ble_eq, UInt8.reduceToNat, UInt32.reduceToNat]
  rintro ⟨h1, h2⟩
  exact ⟨fun hk => ⟨(h1 hk).1, fun hc => ⟨s, Sub.refl s, (h1 hk).2.1 hc⟩, (h1 hk).2.2⟩, fun hk => ⟨s, Sub.refl s, h2 hk⟩⟩
def Set_Put (l : List api_Span) (x : api_Span) : Option (List api_Span) := need ((l.length + 1) * 16 ≤ room) <| span_Join (l ++ [x]) 0
theorem Set_Put_fn {s : Store} {b off : Nat} {cs : List AV} {l : List api_Span} {x : api_Span} {Q : List AV → Store → Prop} (hb : SetAt s b off cs l) : ok (Set_Put l x) (fun r => Q [] (s.set b (.cells (setAt cs off [slv r])))) → FN Go.Proofs.Tryz.prog 124 [.ref b off, .agg [.int .i64 x.From, .int .i64 x.To]] s Q := by
  intro hh
  refine FN.weak (FN.of (draw_ok mix) is_Set_Put rfl (Nat.le_of_ble_eq_true rfl) ?_)
  revert hh
  rw [ir_Set_Put, res_Set_Put, Set_Put]
  simp -implicitDefEqProofs only [go_sem, start, startE, resVs, resV, resC, allV, retK, Nat.reduceBEq, Nat.reduceAdd, Nat.reduceMul, Nat.reduceLeDiff, Nat.reduceEqDiff, Nat.reduceBNe, Nat.ble_eq, UInt8.reduceToNat, UInt32.reduceToNat, hb.1]
  rintro ⟨hr, hh⟩
  refine ⟨fun _ => ?_, fun h => by cases h⟩
  rw [takeC_at0 hb.2]
  simp -implicitDefEqProofs only [go_sem, start, startE, resVs, resV, resC, allV, retK, Nat.reduceBEq, Nat.reduceAdd, Nat.reduceMul, Nat.reduceLeDiff, Nat.reduceEqDiff, Nat.reduceBNe, Nat.ble_eq, UInt8.reduceToNat, UInt32.reduceToNat, hb.1]
  refine ⟨hr, ?_⟩
  have e1 : (l ++ [x]).length = l.length + 1 := by simp
  have e2 : flat (l ++ [x]) = flat l ++ [AV.int IntKind.i64 x.From, AV.int IntKind.i64 x.To] := by rw [flat_append]; rfl
  have hj := fun Q => span_Join_fn (l := l ++ [x]) (gap := 0) (s := s.set b (SO.cells (setAt cs off [slw l]))) (Q := Q)
  rw [e1, e2] at hj
  refine hj _ (ok_mono hh fun r hq => ?_)
  simp -implicitDefEqProofs only [go_sem, start, startE, resVs, resV, resC, allV, retK, Nat.reduceBEq, Nat.reduceAdd, Nat.reduceMul, Nat.reduceLeDiff, Nat.reduceEqDiff, Nat.reduceBNe, Nat.ble_eq, UInt8.reduceToNat, UInt32.reduceToNat, set_at]
  have hlt : off < cs.length := (List.getElem?_eq_some_iff.1 hb.2).1
  rw [setAt_len _ _ _ (show off + [slw l].length ≤ cs.length from hlt)]
  refine ⟨hlt, _, Sub.refl _, ?_⟩
  rw [Nat.add_zero, setAt_twice hlt]
  exact hq
theorem Set_Put_nil {s : Store} {x : api_Span} {Q : List AV → Store → Prop} (hq : Q [] s) : FN Go.Proofs.Tryz.prog 124 [.nilp, .agg [.int .i64 x.From, .int .i64 x.To]] s Q := by
  refine FN.weak (FN.of (draw_ok mix) is_Set_Put rfl (Nat.le_of_ble_eq_true rfl) ?_)
  rw [ir_Set_Put, res_Set_Put]
  simp -implicitDefEqProofs only [go_sem, start, startE, resVs, resV, resC, allV, retK, Nat.reduceBEq, Nat.reduceAdd, Nat.reduceMul, Nat.reduceLeDiff, Nat.reduceEqDiff, Nat.reduceBNe, Nat.ble_eq, UInt8.reduceToNat, UInt32.reduceToNat]
  refine ⟨fun h => (by cases h), fun _ => ⟨s, Sub.refl s, hq⟩⟩
def missPut (at_ : Int) (out : List api_Span) (to_ : Int) : Option (List api_Span) :=
  if decide (at_ < to_) then need ((out.length + 1) * 16 ≤ room) <| some (out ++ [⟨at_, to_⟩]) else some out
theorem Set_Missing1_fn {s : Store} {a o : Nat} {at_ to_ : Int} {out : List api_Span} {Q : List AV → Store → Prop} (ha : s a = some (.cells [.int .i64 at_])) (ho : s o = some (.cells [slv out])) : ok (missPut at_ out to_) (fun r => Q [] (s.set o (.cells [slv r]))) → FN Go.Proofs.Tryz.prog 168 [.int .i64 to_, .ref a 0, .ref o 0] s Q := by
  intro hh
  refine FN.weak (FN.of (draw_ok mix) is_Set_Missing1 rfl (Nat.le_of_ble_eq_true rfl) ?_)
  revert hh
  rw [ir_Set_Missing1, res_Set_Missing1, missPut]
  simp -implicitDefEqProofs only [go_sem, start, startE, resVs, resV, resC, allV, retK, Nat.reduceBEq, Nat.reduceAdd, Nat.reduceMul, Nat.reduceLeDiff, Nat.reduceEqDiff, Nat.reduceBNe, Nat.ble_eq, UInt8.reduceToNat, UInt32.reduceToNat, ha, ho]
  rintro ⟨h1, h2⟩
  have hne : a ≠ o := by rintro rfl; rw [ha] at ho; simp at ho
  refine ⟨fun hc => ?_, fun hc => ⟨_, Sub.refl s, by have := h2 hc; rwa [set_eq' ho] at this⟩⟩
  simp -implicitDefEqProofs only [go_sem, start, startE, resVs, resV, resC, allV, retK, Nat.reduceBEq, Nat.reduceAdd, Nat.reduceMul, Nat.reduceLeDiff, Nat.reduceEqDiff, Nat.reduceBNe, Nat.ble_eq, UInt8.reduceToNat, UInt32.reduceToNat, set_ne hne, ha]
  have e : slv (out ++ [⟨at_, to_⟩]) = .sl true 2 (out.length + 1) (flat out ++ [AV.int IntKind.i64 at_, AV.int IntKind.i64 to_]) := by
    unfold slv; rw [flat_append, List.length_append]; rfl
  refine ⟨(h1 hc).1, _, Sub.refl _, ?_⟩
  rw [← e]; exact (h1 hc).2
theorem SetAt.set {s : Store} {b off c : Nat} {cs : List AV} {l : List api_Span} {x : SO} (h : SetAt s b off cs l) (hn : s c = none) : SetAt (s.set c x) b off cs l := by
  refine ⟨?_, h.2⟩
  rw [set_ne (fun e => by rw [← e, h.1] at hn; cases hn)]; exact h.1
def missB (x : api_Span) (l : List api_Span) : (List api_Span × Int × Int) → Option ((List api_Span × Int × Int) ⊕ (List api_Span × Int)) := fun (out, at_, k) =>
  if decide (k < (l.length : Int)) then
    need (0 ≤ k ∧ k < l.length) <|
    bnd (missPut at_ out (min (ix l k).From x.To)) fun out =>
    some (.inl (out, max at_ (min (ix l k).To x.To), w64 (k + 1)))
  else some (.inr (out, at_))
def Set_Missing (l : List api_Span) (x : api_Span) : Option (List api_Span) :=
  bnd (span_empty x) fun e =>
  if e then some [] else
    bnd (Set_All l) fun l =>
    bnd (iter (missB x l) ([], x.From, 0)) fun (out, at_) =>
    missPut at_ out x.To
theorem Set_Missing_fn {s : Store} {b off : Nat} {cs : List AV} {l : List api_Span} {x : api_Span} {Q : List AV → Store → Prop} (hb : SetAt s b off cs l) : ok (Set_Missing l x) (fun r => Q [slw r] s) → FN Go.Proofs.Tryz.prog 122 [.ref b off, .agg [.int .i64 x.From, .int .i64 x.To]] s Q := by
  intro hh
  refine FN.weak (FN.of (draw_ok mix) is_Set_Missing rfl (Nat.le_of_ble_eq_true rfl) ?_)
  revert hh
  rw [ir_Set_Missing, res_Set_Missing, Set_Missing]
  simp -implicitDefEqProofs only [go_sem, start, startE, resVs, resV, resC, allV, retK, Nat.reduceBEq, Nat.reduceAdd, Nat.reduceMul, Nat.reduceLeDiff, Nat.reduceEqDiff, Nat.reduceBNe, Nat.ble_eq, UInt8.reduceToNat, UInt32.reduceToNat]
  refine call_to (fun _ h => span_empty_fe h) fun e => ?_
  simp -implicitDefEqProofs only [go_sem, start, startE, resVs, resV, resC, allV, retK, Nat.reduceBEq, Nat.reduceAdd, Nat.reduceMul, Nat.reduceLeDiff, Nat.reduceEqDiff, Nat.reduceBNe, Nat.ble_eq, UInt8.reduceToNat, UInt32.reduceToNat]
  rintro ⟨h1, h2⟩
  refine ⟨fun he => ⟨s, Sub.refl s, h1 he⟩, fun he o ho a ha => ?_⟩
  have hh := h2 he
  refine Set_All_fn ((hb.set ho).set ha) (ok_mono hh fun l' hh => ?_)
  simp -implicitDefEqProofs only [go_sem, start, startE, resVs, resV, resC, allV, retK, Nat.reduceBEq, Nat.reduceAdd, Nat.reduceMul, Nat.reduceLeDiff, Nat.reduceEqDiff, Nat.reduceBNe, Nat.ble_eq, UInt8.reduceToNat, UInt32.reduceToNat]
  revert hh
  refine iter_to (fun st => ⟨[(3, .loc [.int .i64 x.From, .int .i64 x.To]), (5, .ref o 0), (6, .ref a 0), (7, .fn 168 [] [.ref a 0, .ref o 0]), (16, slv l'), (17, .int .i64 (l'.length : Nat)), (18, .int .i64 st.2.2)], [], (s.set o (.cells [slv st.1])).set a (.cells [.int .i64 st.2.1])⟩) rfl ?_
  rintro J ⟨out, at_, k⟩
  have hne : o ≠ a := by rintro rfl; rw [set_same] at ha; cases ha
  rw [missB]
  simp -implicitDefEqProofs only [go_sem, start, startE, resVs, resV, resC, allV, retK, Nat.reduceBEq, Nat.reduceAdd, Nat.reduceMul, Nat.reduceLeDiff, Nat.reduceEqDiff, Nat.reduceBNe, Nat.ble_eq, UInt8.reduceToNat, UInt32.reduceToNat]
  rintro ⟨h1, h2⟩
  have st : ∀ X Y Z, ((s.set o X).set a Y).set o Z = (s.set o Z).set a Y := fun X Y Z => by rw [set_comm hne, set_set]
  have go' : ∀ X Y, ((s.set o X).set a Y) o = some X := fun X Y => by rw [set_ne hne, set_same]
  have sub' : ∀ X Y, Sub s ((s.set o X).set a Y) := fun X Y => ((Sub.refl s).set ho).set (by rw [set_none] at ha ⊢; exact ha)
  refine ⟨fun hc => ⟨(h1 hc).1, rfl, ?_⟩, fun hc => ⟨rfl, ?_⟩⟩
  · refine Set_Missing1_fn (at_ := at_) (set_same ..) (go' ..) (ok_mono (h1 hc).2 fun r hr => ?_)
    rw [st]
    simp -implicitDefEqProofs only [go_sem, start, startE, resVs, resV, resC, allV, retK, Nat.reduceBEq, Nat.reduceAdd, Nat.reduceMul, Nat.reduceLeDiff, Nat.reduceEqDiff, Nat.reduceBNe, Nat.ble_eq, UInt8.reduceToNat, UInt32.reduceToNat, set_same, set_set]
    exact hr
  · refine Set_Missing1_fn (at_ := at_) (set_same ..) (go' ..) (ok_mono (h2 hc) fun r hr => ?_)
    rw [st]
    simp -implicitDefEqProofs only [go_sem, start, startE, resVs, resV, resC, allV, retK, Nat.reduceBEq, Nat.reduceAdd, Nat.reduceMul, Nat.reduceLeDiff, Nat.reduceEqDiff, Nat.reduceBNe, Nat.ble_eq, UInt8.reduceToNat, UInt32.reduceToNat, go']
    exact ⟨s, sub' _ _, hr⟩
end Go.AB
end

section
set_option maxRecDepth 4000
namespace Go.AB
open Go
attribute [-go_sem] Nat.add_zero ge_0 part_zero
def ir_Source_is : IC :=
 (.seq (.reg none [i1 2 (.mov false (.c (.bool false)))] [0])
 (.seq (.reg none [mv 3 0,
 i1 4 (.eqP true (.t 3) (.c (.nilp))),
 mv 5 4,
 mvg 6 0 5 true,
 i1g 7 5 true (.nilCheck (.t 6)),
 i1g 8 5 true (.fieldAddr 0 (.t 7)),
 i1g 9 5 true (.load 1 false (.t 8)),
 i1 10 (.pick (.t 5) (.t 9) (.c (.bool false))),
 mv 2 10] [2])
 .ret))
def res_Source_is : List IRes := [⟨2, true, none⟩]
theorem is_Source_is : fnIs Go.Proofs.Tryz.prog 74 11 res_Source_is ir_Source_is = true := by kernel_rfl
def ir_Source_Total : IC :=
 (.seq (.reg none [i1 2 (.mov false (.c (.int .i64 0)))] [0])
 (.seq (.seq (.reg none [mv 3 0,
 i1 4 (.call 74 [(.t 3)]),
 i1 5 (.un .not (.t 4))] [0, 5])
 (.cond (.t 5) (.seq (.reg none [i1 2 (.mov false (.c (.int .i64 0)))] [2])
 .ret)
 .skip))
 (.seq (.reg none [mv 6 0,
 i1 7 (.nilCheck (.t 6)),
 i1 8 (.fieldAddr 1 (.t 7)),
 i1 9 (.load 1 false (.t 8)),
 mv 2 9] [2])
 .ret)))
def res_Source_Total : List IRes := [⟨2, true, none⟩]
theorem is_Source_Total : fnIs Go.Proofs.Tryz.prog 65 10 res_Source_Total ir_Source_Total = true := by kernel_rfl
def ir_Source_First : IC :=
 (.seq (.reg none [i1 4 (.mov false (.c (.int .i64 0)))] [0, 1])
 (.seq (.seq (.reg none [mv 5 0,
 i1 6 (.call 74 [(.t 5)]),
 i1 7 (.un .not (.t 6))] [0, 1, 7])
 (.cond (.t 7) (.seq (.reg none [i1 4 (.mov false (.c (.int .i64 0)))] [4])
 .ret)
 .skip))
 (.seq (.reg none [mv 8 1,
 i1 9 (.minmax true [(.c (.int .i64 0)), (.t 8)]),
 mv 1 9] [0, 1])
 (.seq (.reg (some 11) [mv 10 0,
 i1 11 (.nilCheck (.t 10)),
 i1 12 (.fieldAddr 1 (.t 11)),
 i1 13 (.load 1 false (.t 12)),
 mv 14 0,
 i1 15 (.nilCheck (.t 14)),
 i1 16 (.fieldAddr 2 (.t 15)),
 mv 17 1,
 i1 18 (.call 75 [(.t 16), (.t 17)]),
 i1 19 (.minmax false [(.t 13), (.t 18)]),
 mv 4 19] [4])
 .ret))))
def res_Source_First : List IRes := [⟨4, true, none⟩]
theorem is_Source_First : fnIs Go.Proofs.Tryz.prog 25 20 res_Source_First ir_Source_First = true := by kernel_rfl
def ir_source_New : IC :=
 (.seq (.reg none [i1 2 (.mov false (.c (.nilp))),
 i1 3 (.mov false (.c (.int .i64 0)))] [0])
 (.seq (.seq (.reg none [mv 4 0,
 i1 5 (.bin .lss (.t 4) (.c (.int .i64 0))),
 mv 6 5,
 mvg 7 0 6 false,
 i1g 8 6 false (.bin .gtr (.t 7) (.c (.int .i64 2147483647))),
 i1 9 (.pick (.t 6) (.c (.bool true)) (.t 8))] [0, 9])
 (.cond (.t 9) (.seq (.reg none [i1 2 (.mov false (.c (.nilp))),
 i1 3 (.mov false (.c (.int .i64 5)))] [2, 3])
 .ret)
 .skip))
 (.seq (.reg none [mv 10 0,
 i1 11 (.makeMap),
 i1 12 (.build [.bool false, .int .i64 0, .arr 0 0 0 0, .nilm] [(0, 1, (.c (.bool true))), (1, 1, (.t 10)), (3, 1, (.t 11))]),
 i1 13 (.boxN 2 4 (.t 12)),
 mv 2 13,
 i1 3 (.mov false (.c (.int .i64 0)))] [2, 3])
 .ret)))
def res_source_New : List IRes := [⟨2, true, none⟩, ⟨3, true, none⟩]
theorem is_source_New : fnIs Go.Proofs.Tryz.prog 67 14 res_source_New ir_source_New = true := by kernel_rfl
def ir_source_Whole : IC :=
 (.seq (.reg none [i1 2 (.mov false (.c (.nilp)))] [0])
 (.seq (.reg none [mv 6 0,
 i1 7 (.len 0 (.t 6)),
 i1 8 (.call 67 [(.t 7)]),
 i1 5 (.movT (.t 8)),
 i1 9 (.extract (.t 5) 0),
 i1 10 (.extract (.t 5) 1),
 mv 3 9,
 mv 4 10] [0, 3, 4])
 (.seq (.seq (.reg none [mv 11 4,
 i1 12 (.bin .neq (.t 11) (.c (.int .i64 0)))] [0, 3, 12])
 (.cond (.t 12) (.seq (.reg none [i1 2 (.mov false (.c (.nilp)))] [2])
 .ret)
 .skip))
 (.seq (.reg none [mv 13 3,
 mt 14 0,
 i1 15 (.call 68 [(.t 13), (.c (.int .i64 0)), (.t 14)])] [3])
 (.seq (.reg none [mv 16 3,
 mv 2 16] [2])
 .ret)))))
def res_source_Whole : List IRes := [⟨2, true, none⟩]
theorem is_source_Whole : fnIs Go.Proofs.Tryz.prog 26 17 res_source_Whole ir_source_Whole = true := by kernel_rfl
def ir_Source_write : IC :=
 (.block 0 (.loop [(0, false), (1, false), (2, false)] (.seq (.seq (.reg none [mv 11 2,
 i1 12 (.len 0 (.t 11)),
 i1 13 (.bin .gtr (.t 12) (.c (.int .i64 0)))] [0, 1, 2, 13])
 (.cond (.t 13) .skip
 (.exit 0)))
 (.block 1 (.seq (.reg none [mv 14 1,
 i1 15 (.bin .quo (.t 14) (.c (.int .i64 4096))),
 mv 16 1,
 i1 17 (.bin .rem (.t 16) (.c (.int .i64 4096))),
 mv 6 15,
 mv 7 17] [0, 1, 2, 6, 7])
 (.seq (.reg none [mv 19 0,
 i1 20 (.nilCheck (.t 19)),
 i1 21 (.fieldAddr 3 (.t 20)),
 i1 22 (.load 1 false (.t 21)),
 mv 23 6,
 i1 24 (.lookup (.int .i64) (.sl false 1 0 []) true (.t 22) (.t 23)),
 i1 18 (.movT (.t 24)),
 i1 25 (.extract (.t 18) 0),
 i1 26 (.extract (.t 18) 1),
 mt 8 25,
 mv 9 26] [0, 1, 2, 6, 7, 8, 9])
 (.seq (.seq (.reg none [mv 27 9,
 i1 28 (.un .not (.t 27))] [0, 1, 2, 6, 7, 8, 28])
 (.cond (.t 28) (.seq (.reg none [i1 29 (.makeSl 1 1 [.int .u8 0] (.c (.int .i64 4096)) (.c (.int .i64 4096))),
 mt 8 29] [0, 1, 2, 6, 7, 8])
 (.reg none [mv 30 0,
 i1 31 (.nilCheck (.t 30)),
 i1 32 (.fieldAddr 3 (.t 31)),
 i1 33 (.load 1 false (.t 32)),
 mv 34 6,
 mv 35 8,
 i0 (.mapUpdate (.int .i64) (.t 33) (.t 34) (.t 35))] [0, 1, 2, 7, 8]))
 .skip))
 (.seq (.reg none [mt 36 8,
 mv 37 7,
 i1 38 (.slice 1 (.t 36) (some (.t 37)) none none),
 mv 39 2,
 i1 40 (.copyA 1 (.t 38) (.t 39)),
 mv 10 40] [0, 1, 2, 10])
 (.reg (some 8) [mv 41 1,
 mv 42 10,
 i1 43 (.bin .add (.t 41) (.t 42)),
 mv 44 2,
 mv 45 10,
 i1 46 (.slice 1 (.t 44) (some (.t 45)) none none),
 mv 1 43,
 mv 2 46] [0, 1, 2])))))))))
def res_Source_write : List IRes := []
theorem is_Source_write : fnIs Go.Proofs.Tryz.prog 123 47 res_Source_write ir_Source_write = true := by kernel_rfl
def ir_Source_Put : IC :=
 (.seq (.reg none [i1 6 (.mov false (.c (.int .i64 0)))] [0, 1, 2])
 (.seq (.block 0 (.seq (.reg none [mv 11 0,
 i1 12 (.call 74 [(.t 11)]),
 i1 13 (.un .not (.t 12)),
 mv 10 13] [0, 1, 2, 10])
 (.cond (.t 10) (.seq (.reg none [i1 6 (.mov false (.c (.int .i64 1)))] [6])
 .ret)
 (.seq (.reg none [mv 15 1,
 i1 16 (.bin .lss (.t 15) (.c (.int .i64 0))),
 mv 17 16,
 mvg 18 1 17 false,
 mvg 19 0 17 false,
 i1g 20 17 false (.nilCheck (.t 19)),
 i1g 21 17 false (.fieldAddr 1 (.t 20)),
 i1g 22 17 false (.load 1 false (.t 21)),
 i1g 23 17 false (.bin .gtr (.t 18) (.t 22)),
 i1 24 (.pick (.t 17) (.c (.bool true)) (.t 23)),
 mv 14 24] [0, 1, 2, 14])
 (.cond (.t 14) (.seq (.reg none [i1 6 (.mov false (.c (.int .i64 2)))] [6])
 .ret)
 (.seq (.reg none [mv 26 2,
 i1 27 (.len 0 (.t 26)),
 mv 28 0,
 i1 29 (.nilCheck (.t 28)),
 i1 30 (.fieldAddr 1 (.t 29)),
 i1 31 (.load 1 false (.t 30)),
 mv 32 1,
 i1 33 (.bin .sub (.t 31) (.t 32)),
 i1 34 (.bin .gtr (.t 27) (.t 33)),
 mv 25 34] [0, 1, 2, 25])
 (.cond (.t 25) (.seq (.reg none [i1 6 (.mov false (.c (.int .i64 5)))] [6])
 .ret)
 .skip)))))))
 (.seq (.reg none [mv 35 1,
 mv 36 1,
 mv 37 2,
 i1 38 (.len 0 (.t 37)),
 i1 39 (.bin .add (.t 36) (.t 38)),
 i1 40 (.build [.int .i64 0, .int .i64 0] [(0, 1, (.t 35)), (1, 1, (.t 39))]),
 i1 7 (.allocL [.int .i64 0, .int .i64 0]),
 i0 (.store 2 (.t 7) (.t 40))] [0, 1, 2, 7])
 (.seq (.seq (.reg (some 7) [mv 41 0,
 i1 42 (.nilCheck (.t 41)),
 i1 43 (.fieldAddr 2 (.t 42)),
 i1 44 (.load 2 true (.t 7)),
 i1 45 (.call 122 [(.t 43), (.t 44)]),
 i1 46 (.len 0 (.t 45)),
 i1 47 (.mov false (.c (.int .i64 0)))] [0, 1, 2, 7, 45, 46, 47])
 (.block 1 (.loop [(0, false), (1, false), (2, false), (7, false), (45, false), (46, false), (47, false)] (.seq (.reg none [i1 48 (.bin .lss (.t 47) (.t 46))] [0, 1, 2, 7, 45, 46, 47, 48])
 (.seq (.cond (.t 48) .skip
 (.exit 1))
 (.seq (.block 2 (.seq (.reg none [i1 49 (.indexAddr [.int .i64 0, .int .i64 0] (.t 45) (.t 47)),
 i1 50 (.load 2 true (.t 49)),
 i1 9 (.allocL [.int .i64 0, .int .i64 0]),
 i0 (.store 2 (.t 9) (.t 50))] [0, 1, 2, 7, 9, 45, 46, 47])
 (.reg (some 13) [mv 51 0,
 i1 52 (.fieldAddr 0 (.t 9)),
 i1 53 (.load 1 false (.t 52)),
 mv 54 2,
 i1 55 (.fieldAddr 0 (.t 9)),
 i1 56 (.load 1 false (.t 55)),
 mv 57 1,
 i1 58 (.bin .sub (.t 56) (.t 57)),
 i1 59 (.fieldAddr 1 (.t 9)),
 i1 60 (.load 1 false (.t 59)),
 mv 61 1,
 i1 62 (.bin .sub (.t 60) (.t 61)),
 i1 63 (.slice 1 (.t 54) (some (.t 58)) (some (.t 62)) none),
 i1 64 (.call 123 [(.t 51), (.t 53), (.t 63)])] [0, 1, 2, 7, 45, 46, 47])))
 (.reg none [i1 65 (.bin .add (.t 47) (.c (.int .i64 1))),
 mv 47 65] [0, 1, 2, 7, 45, 46, 47])))))))
 (.seq (.reg (some 4) [mv 66 0,
 i1 67 (.nilCheck (.t 66)),
 i1 68 (.fieldAddr 2 (.t 67)),
 i1 69 (.load 2 true (.t 7)),
 i1 70 (.call 124 [(.t 68), (.t 69)])] [])
 (.seq (.reg none [i1 6 (.mov false (.c (.int .i64 0)))] [6])
 .ret))))))
def res_Source_Put : List IRes := [⟨6, true, none⟩]
theorem is_Source_Put : fnIs Go.Proofs.Tryz.prog 68 71 res_Source_Put ir_Source_Put = true := by kernel_rfl
abbrev Blk := Int → Option (List UInt8)
structure SrcG where
  total : Int
  known : List api_Span
  blk : Blk
def upd (m : Blk) (k : Int) (l : List UInt8) : Blk := fun i => if i = k then some l else m i
def KI (es : List (AV × AV)) : Prop := ∀ p ∈ es, ∃ (k : Int) (v : AV), p = (.int .i64 k, v)
def RowAt (s0 s : Store) (es : List (AV × AV)) (k : Int) : Option (List UInt8) → Prop
  | none => findK (.int .i64 k) es = none
  | some l => l.length = 4096 ∧ ∃ b, findK (.int .i64 k) es = some (.arr b 0 4096 4096) ∧ s0 b = none ∧ s b = some (.cells (flat l))
def Inj (es : List (AV × AV)) : Prop := ∀ k k' b, findK (.int .i64 k) es = some (.arr b 0 4096 4096) → findK (.int .i64 k') es = some (.arr b 0 4096 4096) → k = k'
def SrcAt (s0 s : Store) (B : Nat) (g : SrcG) : Prop := Sub s0 s ∧ s0 B = none ∧ ∃ M es, s B = some (.cells [.bool true, .int .i64 g.total, slv g.known, .mp M]) ∧ s0 M = none ∧ s M = some (.map es) ∧ KI es ∧ (∀ k, RowAt s0 s es k (g.blk k)) ∧ Inj es
def allU8 (cs : List AV) : Prop := ∀ c ∈ cs, ∃ m : Int, c = .int .u8 m
theorem u8_flat (l : List UInt8) : allU8 (flat l) := fun c hc => by
  obtain ⟨y, hy, hc⟩ := List.mem_flatten.1 hc
  obtain ⟨z, _, rfl⟩ := List.mem_map.1 hy
  exact ⟨_, List.mem_singleton.1 hc⟩
theorem flat_nb {l : List UInt8} {r : List AV} (h : flat l = .bool true :: r) : False := by
  obtain ⟨m, hm⟩ := u8_flat l (.bool true) (by rw [h]; exact List.mem_cons_self)
  cases hm
theorem RowAt.mono {s0 s s' : Store} {es : List (AV × AV)} {k : Int} {o : Option (List UInt8)} (h : RowAt s0 s es k o) (hs : ∀ b l, s b = some (.cells (flat (l : List UInt8))) → s' b = some (.cells (flat l))) : RowAt s0 s' es k o := by
  cases o with
  | none => exact h
  | some l => obtain ⟨h1, b, h2, h3, h4⟩ := h; exact ⟨h1, b, h2, h3, hs b l h4⟩
theorem SrcAt.set {s0 s : Store} {B : Nat} {g : SrcG} {c : Nat} {x : SO} (h : SrcAt s0 s B g) (hn : s c = none) : SrcAt s0 (s.set c x) B g := by
  obtain ⟨h1, h2, M, es, h3, h4, h5, h6, h7, h8⟩ := h
  have ne : ∀ b o, s b = some o → (s.set c x) b = some o := fun b o hb => by rw [set_ne (fun e => by rw [e, hn] at hb; cases hb)]; exact hb
  exact ⟨h1.set hn, h2, M, es, ne _ _ h3, h4, ne _ _ h5, h6, fun k => (h7 k).mono fun b l => ne b _, h8⟩
theorem SrcAt.setAt {s0 s : Store} {B : Nat} {g : SrcG} (h : SrcAt s0 s B g) : ∃ cs, SetAt s B 2 cs g.known ∧ ∀ l, SrcAt s0 (s.set B (.cells (AB.setAt cs 2 [slv l]))) B ⟨g.total, l, g.blk⟩ := by
  obtain ⟨h1, h2, M, es, h3, h4, h5, h6, h7, h8⟩ := h
  refine ⟨_, ⟨h3, rfl⟩, fun l => ⟨fun b o hb => ?_, h2, M, es, ?_, h4, ?_, h6, fun k => (h7 k).mono fun b l hb => ?_, h8⟩⟩
  · rw [set_ne (fun e => by rw [e, h2] at hb; cases hb)]; exact h1 b o hb
  · rw [set_same]; rfl
  · rw [set_ne (fun e => by rw [e, h3] at h5; cases h5)]; exact h5
  · rw [set_ne (fun e => by
      rw [e, h3] at hb
      injection hb with hb; injection hb with hb
      exact flat_nb hb.symm)]
    exact hb
theorem KI.keys {es : List (AV × AV)} (h : KI es) : keysOK (.int .i64) es = true := by
  unfold keysOK
  rw [List.all_eq_true]
  intro p hp
  obtain ⟨k, v, rfl⟩ := h p hp
  rfl
theorem findK_put (k k' : Int) (v : AV) : ∀ {es : List (AV × AV)}, KI es → findK (.int .i64 k) (putK (.int .i64 k') v es) = if k = k' then some v else findK (.int .i64 k) es
  | [], _ => by
    simp only [putK, findK, keyIs_int]
    by_cases h : k = k'
    · simp [h]
    · rw [if_neg h, show (k == k') = false by simpa using h]; rfl
  | p :: es, h => by
    obtain ⟨j, u, rfl⟩ := h p List.mem_cons_self
    have ih := findK_put k k' v (es := es) fun q hq => h q (List.mem_cons_of_mem _ hq)
    simp only [putK, keyIs_int]
    by_cases e : k' = j
    · subst e
      by_cases h : k = k'
      · simp [findK, keyIs_int, h]
      · simp only [beq_self_eq_true, cond_true, findK, keyIs_int]; rw [if_neg h, show (k == k') = false by simpa using h]; rfl
    · rw [show (k' == j) = false by simpa using e]
      simp only [cond_false, findK, keyIs_int, ih]
      by_cases h : k = j
      · subst h; simp only [beq_self_eq_true, cond_true, if_neg (fun h : k = k' => e h.symm)]
      · rw [show (k == j) = false by simpa using h]; simp
theorem KI.put {k : Int} {v : AV} : ∀ {es : List (AV × AV)}, KI es → KI (putK (.int .i64 k) v es)
  | [], _ => fun p hp => by
    rcases List.mem_cons.1 hp with rfl | hp
    · exact ⟨k, v, rfl⟩
    · cases hp
  | q :: es, h => by
    unfold putK
    cases hk : keyIs (.int .i64 k) q.1 with
    | true =>
      intro p hp
      rcases List.mem_cons.1 hp with rfl | hp
      · exact ⟨k, v, rfl⟩
      · exact h p (List.mem_cons_of_mem _ hp)
    | false =>
      intro p hp
      rcases List.mem_cons.1 hp with rfl | hp
      · exact h _ List.mem_cons_self
      · exact KI.put (fun q' hq => h q' (List.mem_cons_of_mem _ hq)) p hp
theorem SrcAt.row {s0 s : Store} {B b M : Nat} {g : SrcG} {es : List (AV × AV)} {k : Int} {l l' : List UInt8} (h : SrcAt s0 s B g) (hB : s B = some (.cells [.bool true, .int .i64 g.total, slv g.known, .mp M])) (hM : s M = some (.map es)) (hb : s0 b = none) (hk : findK (.int .i64 k) es = some (.arr b 0 4096 4096)) (h1 : s b = some (.cells (flat l))) (h3 : l'.length = 4096) :
    SrcAt s0 (s.set b (.cells (flat l'))) B ⟨g.total, g.known, upd g.blk k l'⟩ := by
  obtain ⟨q1, q2, M', es', q3, q4, q5, q6, q7, q8⟩ := h
  have eM : M' = M := by
    rw [q3] at hB
    injection hB with hB; injection hB with hB; simp at hB; exact hB
  subst eM
  have eE : es' = es := by rw [q5] at hM; injection hM with hM; injection hM
  subst eE
  have nB : B ≠ b := fun e => by
    rw [← e, q3] at h1
    injection h1 with h1; injection h1 with h1
    exact flat_nb h1.symm
  have nM : M' ≠ b := fun e => by rw [← e, q5] at h1; cases h1
  refine ⟨fun c o hc => ?_, q2, M', es', by rw [set_ne nB]; exact q3, q4, by rw [set_ne nM]; exact q5, q6, fun i => ?_, q8⟩
  · rw [set_ne (fun e => by rw [e, hb] at hc; cases hc)]; exact q1 c o hc
  · show RowAt _ _ _ i (if i = k then some l' else g.blk i)
    by_cases hi : i = k
    · subst hi; rw [if_pos rfl]; exact ⟨h3, b, hk, hb, set_same ..⟩
    · rw [if_neg hi]
      have h := q7 i
      cases ho : g.blk i with
      | none => rw [ho] at h; exact h
      | some l2 =>
        rw [ho] at h
        obtain ⟨w1, b2, w2, w3, w4⟩ := h
        exact ⟨w1, b2, w2, w3, by rw [set_ne (fun e => hi (q8 i k b2 w2 (by rw [e]; exact hk)))]; exact w4⟩
theorem SrcAt.put {s0 s : Store} {B M b : Nat} {g : SrcG} {es : List (AV × AV)} {k : Int} {l : List UInt8} (h : SrcAt s0 s B g) (hB : s B = some (.cells [.bool true, .int .i64 g.total, slv g.known, .mp M])) (hM : s M = some (.map es)) (hb : s b = none) (h3 : l.length = 4096) :
    SrcAt s0 ((s.set b (.cells (flat l))).set M (.map (putK (.int .i64 k) (.arr b 0 4096 4096) es))) B ⟨g.total, g.known, upd g.blk k l⟩ := by
  obtain ⟨q1, q2, M', es', q3, q4, q5, q6, q7, q8⟩ := h
  have eM : M' = M := by
    rw [q3] at hB
    injection hB with hB; injection hB with hB; simp at hB; exact hB
  subst eM
  have eE : es' = es := by rw [q5] at hM; injection hM with hM; injection hM
  subst eE
  have nBb : B ≠ b := fun e => by rw [e, hb] at q3; cases q3
  have nMb : M' ≠ b := fun e => by rw [e, hb] at q5; cases q5
  have nB : B ≠ M' := fun e => by rw [e, q5] at q3; cases q3
  have fb : ∀ i, findK (.int .i64 i) es' ≠ some (.arr b 0 4096 4096) := fun i e => by
    have h := q7 i
    cases ho : g.blk i with
    | none => rw [ho] at h; rw [show findK _ es' = none from h] at e; cases e
    | some l2 =>
      rw [ho] at h
      obtain ⟨w1, b2, w2, w3, w4⟩ := h
      rw [w2] at e; injection e with e; injection e with e
      rw [e, hb] at w4; cases w4
  refine ⟨fun c o hc => ?_, q2, M', _, by rw [set_ne nB, set_ne nBb]; exact q3, q4, set_same .., q6.put, fun i => ?_, fun i j c hi hj => ?_⟩
  · rw [set_ne (fun e => by rw [e, q4] at hc; cases hc), set_ne (fun e => by rw [e, Sub.none q1 hb] at hc; cases hc)]; exact q1 c o hc
  · show RowAt _ _ _ i (if i = k then some l else g.blk i)
    by_cases hi : i = k
    · subst hi; rw [if_pos rfl]
      exact ⟨h3, b, by rw [findK_put _ _ _ q6, if_pos rfl], Sub.none q1 hb, by rw [set_ne (Ne.symm nMb), set_same]⟩
    · rw [if_neg hi]
      have h := q7 i
      cases ho : g.blk i with
      | none => rw [ho] at h; show findK _ _ = none; rw [findK_put _ _ _ q6, if_neg hi]; exact h
      | some l2 =>
        rw [ho] at h
        obtain ⟨w1, b2, w2, w3, w4⟩ := h
        exact ⟨w1, b2, by rw [findK_put _ _ _ q6, if_neg hi]; exact w2, w3, by
          rw [set_ne (fun e => by rw [e, q5] at w4; cases w4), set_ne (fun e => by rw [e, hb] at w4; cases w4)]; exact w4⟩
  · rw [findK_put _ _ _ q6] at hi hj
    by_cases ei : i = k
    · by_cases ej : j = k
      · rw [ei, ej]
      · rw [if_pos ei] at hi; rw [if_neg ej] at hj
        injection hi with hi; injection hi with hi
        rw [← hi] at hj; exact absurd hj (fb j)
    · rw [if_neg ei] at hi
      by_cases ej : j = k
      · rw [if_pos ej] at hj
        injection hj with hj; injection hj with hj
        rw [← hj] at hi; exact absurd hi (fb i)
      · rw [if_neg ej] at hj; exact q8 i j c hi hj
theorem Source_is_fn {s0 s : Store} {B : Nat} {g : SrcG} {Q : List AV → Store → Prop} (h : SrcAt s0 s B g) (hq : Q [.bool true] s) : FN Go.Proofs.Tryz.prog 74 [.ref B 0] s Q := by
  obtain ⟨h1, h2, M, es, h3, h4, h5, h6⟩ := h
  refine FN.weak (FN.of (draw_ok mix) is_Source_is rfl (Nat.le_of_ble_eq_true rfl) ?_)
  rw [ir_Source_is, res_Source_is]
  simp -implicitDefEqProofs only [go_sem, start, startE, resVs, resV, resC, allV, retK, Nat.reduceBEq, Nat.reduceAdd, Nat.reduceMul, Nat.reduceLeDiff, Nat.reduceEqDiff, Nat.reduceBNe, Nat.ble_eq, UInt8.reduceToNat, UInt32.reduceToNat, h3]
  exact ⟨s, Sub.refl s, hq⟩
theorem Source_Total_fn {s0 s : Store} {B : Nat} {g : SrcG} {Q : List AV → Store → Prop} (h : SrcAt s0 s B g) (hq : Q [.int .i64 g.total] s) : FN Go.Proofs.Tryz.prog 65 [.ref B 0] s Q := by
  refine FN.weak (FN.of (draw_ok mix) is_Source_Total rfl (Nat.le_of_ble_eq_true rfl) ?_)
  rw [ir_Source_Total, res_Source_Total]
  simp -implicitDefEqProofs only [go_sem, start, startE, resVs, resV, resC, allV, retK, Nat.reduceBEq, Nat.reduceAdd, Nat.reduceMul, Nat.reduceLeDiff, Nat.reduceEqDiff, Nat.reduceBNe, Nat.ble_eq, UInt8.reduceToNat, UInt32.reduceToNat]
  refine Source_is_fn h ?_
  obtain ⟨h1, h2, M, es, h3, h4, h5, h6⟩ := h
  simp -implicitDefEqProofs only [go_sem, start, startE, resVs, resV, resC, allV, retK, Nat.reduceBEq, Nat.reduceAdd, Nat.reduceMul, Nat.reduceLeDiff, Nat.reduceEqDiff, Nat.reduceBNe, Nat.ble_eq, UInt8.reduceToNat, UInt32.reduceToNat, h3]
  exact ⟨fun h => h.elim, fun _ => ⟨s, Sub.refl s, hq⟩⟩
theorem Source_First_fn {s0 s : Store} {B : Nat} {g : SrcG} {at_ : Int} {Q : List AV → Store → Prop} (h : SrcAt s0 s B g) : ok (Set_Upto g.known (max 0 at_)) (fun r => Q [.int .i64 (min g.total r)] s) → FN Go.Proofs.Tryz.prog 25 [.ref B 0, .int .i64 at_] s Q := by
  intro hh
  refine FN.weak (FN.of (draw_ok mix) is_Source_First rfl (Nat.le_of_ble_eq_true rfl) ?_)
  rw [ir_Source_First, res_Source_First]
  simp -implicitDefEqProofs only [go_sem, start, startE, resVs, resV, resC, allV, retK, Nat.reduceBEq, Nat.reduceAdd, Nat.reduceMul, Nat.reduceLeDiff, Nat.reduceEqDiff, Nat.reduceBNe, Nat.ble_eq, UInt8.reduceToNat, UInt32.reduceToNat]
  refine Source_is_fn h ?_
  obtain ⟨cs, hs, _⟩ := h.setAt
  obtain ⟨h1, h2, M, es, h3, h4, h5, h6⟩ := h
  simp -implicitDefEqProofs only [go_sem, start, startE, resVs, resV, resC, allV, retK, Nat.reduceBEq, Nat.reduceAdd, Nat.reduceMul, Nat.reduceLeDiff, Nat.reduceEqDiff, Nat.reduceBNe, Nat.ble_eq, UInt8.reduceToNat, UInt32.reduceToNat, h3]
  refine ⟨fun h => h.elim, fun _ => ?_⟩
  obtain ⟨r, hr, hq⟩ := hh
  refine ⟨[.int .i64 r], rfl, Set_Upto_fn hs ⟨r, hr, rfl, rfl⟩, ?_⟩
  simp -implicitDefEqProofs only [go_sem, start, startE, resVs, resV, resC, allV, retK, Nat.reduceBEq, Nat.reduceAdd, Nat.reduceMul, Nat.reduceLeDiff, Nat.reduceEqDiff, Nat.reduceBNe, Nat.ble_eq, UInt8.reduceToNat, UInt32.reduceToNat]
  exact ⟨s, Sub.refl s, hq⟩
theorem source_New_fn {s : Store} {n : Int} {Q : List AV → Store → Prop} (hn : 0 ≤ n ∧ n ≤ 2147483647) (hq : ∀ B s', SrcAt s s' B ⟨n, [], fun _ => none⟩ → Q [.ref B 0, .int .i64 0] s') : FN Go.Proofs.Tryz.prog 67 [.int .i64 n] s Q := by
  refine FN.weak (FN.of (draw_ok mix) is_source_New rfl (Nat.le_of_ble_eq_true rfl) ?_)
  rw [ir_source_New, res_source_New]
  simp -implicitDefEqProofs only [go_sem, start, startE, resVs, resV, resC, allV, retK, Nat.reduceBEq, Nat.reduceAdd, Nat.reduceMul, Nat.reduceLeDiff, Nat.reduceEqDiff, Nat.reduceBNe, Nat.ble_eq, UInt8.reduceToNat, UInt32.reduceToNat]
  refine ⟨fun h => ?_, fun _ M hM B hB => ⟨_, Sub.refl _, hq B _ ⟨((Sub.refl s).set hM).set hB, ?_, M, [], set_same .., hM, ?_, fun p hp => (by cases hp), fun k => rfl, fun k k' b h => (by cases h)⟩⟩⟩
  · simp at h; omega
  · rw [set_none] at hB; exact hB.2
  · rw [set_none] at hB; rw [set_ne (Ne.symm hB.1), set_same]
theorem look_none {es : List (AV × AV)} {n : Int} (h : KI es) (e : findK (.int .i64 n) es = none) : lookupO (.int .i64) (.sl false 1 0 []) true (.int .i64 n) (some (.map es)) = .prt True (.tup [.sl false 1 0 [], .bool false]) := by
  show ckL true (keyOK (.int .i64) (.int .i64 n) = true ∧ keysOK (.int .i64) es = true) (lookV (.sl false 1 0 []) true (findK (.int .i64 n) es)) = _
  rw [e, h.keys]
  show PR.prt (true = true ∧ true = true) _ = _
  simp [lookV, okV, view]
theorem look_some {es : List (AV × AV)} {n : Int} {b : Nat} (h : KI es) (e : findK (.int .i64 n) es = some (.arr b 0 4096 4096)) : lookupO (.int .i64) (.sl false 1 0 []) true (.int .i64 n) (some (.map es)) = .prt True (.tup [.arr b 0 4096 4096, .bool true]) := by
  show ckL true (keyOK (.int .i64) (.int .i64 n) = true ∧ keysOK (.int .i64) es = true) (lookV (.sl false 1 0 []) true (findK (.int .i64 n) es)) = _
  rw [e, h.keys]
  show PR.prt (true = true ∧ true = true) _ = _
  simp [lookV, okV, view]
theorem arrOff_o {o : Nat} (h : o < 4096) : arrOff 0 4096 o 1 = o := by
  unfold arrOff
  rw [show (4096 == o) = false by simp; omega]; simp
def over (c : List UInt8) (o : Nat) (x : List UInt8) : List UInt8 := c.take o ++ x ++ c.drop (o + x.length)
theorem over_len {c x : List UInt8} {o : Nat} (h : o + x.length ≤ c.length) : (over c o x).length = c.length := by
  unfold over; simp only [List.length_append, List.length_take, List.length_drop]; omega
theorem upd_upd (m : Blk) (k : Int) (x y : List UInt8) : upd (upd m k x) k y = upd m k y := by
  funext i; unfold upd; by_cases h : i = k <;> simp [h]
theorem cpy {σ : St} {d : Option Nat} {K : St → Prop} {s0 : Store} {B b M : Nat} {g : SrcG} {es : List (AV × AV)} {k : Int} {c l : List UInt8} {o o' n cap : Nat} (h : SrcAt s0 σ.s B g) (hB : σ.s B = some (.cells [.bool true, .int .i64 g.total, slv g.known, .mp M])) (hM : σ.s M = some (.map es)) (hb : s0 b = none)
    (hk : findK (.int .i64 k) es = some (.arr b 0 4096 4096)) (h2 : σ.s b = some (.cells (flat c))) (h3 : c.length = 4096) (ho : o < 4096) (he : o' = o) (hn : n = 4096 - o)
    (hK : ∀ s3, SrcAt s0 s3 B ⟨g.total, g.known, upd g.blk k (over c o (l.take (min l.length (4096 - o))))⟩ → K ({ σ with s := s3 }.put d (.int .i64 (min l.length (4096 - o) : Nat)))) : copyAW 1 σ d K (.arr b o' n cap) (some (l.length, flat l)) := by
  subst he; subst hn
  have hf : (flat c).length = 4096 := by rw [flat_len, h3]; rfl
  refine copyAW_in h2 (by omega) (hK _ ?_)
  have hl : (l.take (min l.length (4096 - o'))).length = min l.length (4096 - o') := by rw [List.length_take]; omega
  have e := row_set c (l.take (min l.length (4096 - o'))) [] 1 o' rfl (by rw [hl]; omega)
  rw [List.append_nil, List.append_nil, Nat.mul_one] at e
  have e2 : (flat l).take (min l.length (4096 - o') * 1) = flat (l.take (min l.length (4096 - o'))) := flat_take l _
  rw [e2, e]
  exact SrcAt.row h hB hM hb hk h2 (by
    show (over c o' (l.take (min l.length (4096 - o')))).length = 4096
    rw [over_len (by rw [hl]; omega), h3])
def zero4 : List UInt8 := List.replicate 4096 0
def writeB : Int × List UInt8 × Blk → Option ((Int × List UInt8 × Blk) ⊕ Blk) := fun (a, l, m) =>
  if decide ((l.length : Int) > 0) then
    some (.inl (w64 (a + (min l.length (4096 - (a.tmod 4096).toNat) : Nat)), l.drop (min l.length (4096 - (a.tmod 4096).toNat)),
      upd m (w64 (a.tdiv 4096)) (over ((m (w64 (a.tdiv 4096))).getD zero4) (a.tmod 4096).toNat (l.take (min l.length (4096 - (a.tmod 4096).toNat))))))
  else some (.inr m)
theorem Source_write_fn {s0 s : Store} {B : Nat} {g : SrcG} {a0 : Int} {l0 : List UInt8} {Q : List AV → Store → Prop} (h : SrcAt s0 s B g) (h0 : 0 ≤ a0) (h1 : a0 + l0.length ≤ 9223372036854775807) :
    ok (iter writeB (a0, l0, g.blk)) (fun m => ∀ s', SrcAt s0 s' B ⟨g.total, g.known, m⟩ → Q [] s') → FN Go.Proofs.Tryz.prog 123 [.ref B 0, .int .i64 a0, .sl false 1 l0.length (flat l0)] s Q := by
  intro hw
  refine FN.weak (FN.of (draw_ok mix) is_Source_write rfl (Nat.le_of_ble_eq_true rfl) ?_)
  rw [ir_Source_write, res_Source_write]
  simp -implicitDefEqProofs only [go_sem, start, startE, resVs, resV, resC, allV, retK, Nat.reduceBEq, Nat.reduceAdd, Nat.reduceMul, Nat.reduceLeDiff, Nat.reduceEqDiff, Nat.reduceBNe, Nat.ble_eq, UInt8.reduceToNat, UInt32.reduceToNat]
  revert hw
  refine iter_toR (fun st τ => 0 ≤ st.1 ∧ st.1 + (st.2.1.length : Int) ≤ 9223372036854775807 ∧ ∃ s', τ = ⟨[(0, .ref B 0), (1, .int .i64 st.1), (2, .sl false 1 st.2.1.length (flat st.2.1))], [], s'⟩ ∧ SrcAt s0 s' B ⟨g.total, g.known, st.2.2⟩) ⟨h0, h1, s, rfl, h⟩ ?_
  rintro J ⟨a, l, m⟩ τ ⟨ha, hal, s', rfl, hs⟩
  have ha : 0 ≤ a := ha
  have hal : a + (l.length : Int) ≤ 9223372036854775807 := hal
  obtain ⟨q1, q2, M, es, q3, q4, q5, q6, q7, q8⟩ := id hs
  rw [writeB]
  simp -implicitDefEqProofs only [go_sem, start, startE, resVs, resV, resC, allV, retK, Nat.reduceBEq, Nat.reduceAdd, Nat.reduceMul, Nat.reduceLeDiff, Nat.reduceEqDiff, Nat.reduceBNe, Nat.ble_eq, UInt8.reduceToNat, UInt32.reduceToNat, q3, q5]
  rintro ⟨hw1, hw2⟩
  refine ⟨fun hc => ⟨by decide, by decide, ?_⟩, fun hc => ⟨s', Sub.refl s', hw2 hc s' hs⟩⟩
  have hw := hw1 hc
  clear hw1 hw2
  have hm : 0 ≤ a.tmod 4096 := Int.tmod_nonneg _ ha
  have hm2 : a.tmod 4096 < 4096 := Int.tmod_lt_of_pos _ (by decide)
  have hN : min l.length (4096 - (a.tmod 4096).toNat) ≤ l.length := Nat.min_le_left ..
  have hsub : ∀ N, AB.sub (flat l) (N * 1) ((l.length - N) * 1) = flat (l.drop N) := fun N => by
    rw [flat_sub l 1 N (l.length - N) rfl, List.take_of_length_le (by simp)]
  have hlen : ∀ N, (flat (l.drop N)).length / 1 = (l.drop N).length := fun N => by rw [Nat.div_one, flat_len]; exact Nat.mul_one _
  have hj : ∀ c, (m (w64 (a.tdiv 4096))).getD zero4 = c → ∀ s3, SrcAt s0 s3 B ⟨g.total, g.known, upd m (w64 (a.tdiv 4096)) (over c (a.tmod 4096).toNat (l.take (min l.length (4096 - (a.tmod 4096).toNat))))⟩ → J ⟨[(0, .ref B 0), (1, .int .i64 (w64 (a + (min l.length (4096 - (a.tmod 4096).toNat) : Nat)))), (2, .sl false 1 (l.drop (min l.length (4096 - (a.tmod 4096).toNat))).length (flat (l.drop (min l.length (4096 - (a.tmod 4096).toNat)))))], [], s3⟩ := fun c hcc s3 h3 => by
    subst hcc
    have hw' : w64 (a + (min l.length (4096 - (a.tmod 4096).toNat) : Nat)) = a + (min l.length (4096 - (a.tmod 4096).toNat) : Nat) := w64_id (by omega) (by omega)
    refine hw _ ⟨?_, ?_, s3, rfl, h3⟩
    · show 0 ≤ w64 _; rw [hw']; omega
    · show w64 _ + ((l.drop _).length : Int) ≤ _; rw [hw', List.length_drop]; omega
  have q7' := q7 (w64 (a.tdiv 4096))
  cases hmk : m (w64 (a.tdiv 4096)) with
  | none =>
    have e : findK (.int .i64 (w64 (a.tdiv 4096))) es = none := by rw [show (SrcG.blk ⟨g.total, g.known, m⟩) (w64 (a.tdiv 4096)) = none from hmk] at q7'; exact q7'
    rw [look_none q6 e]
    simp -implicitDefEqProofs only [go_sem, start, startE, resVs, resV, resC, allV, retK, Nat.reduceBEq, Nat.reduceAdd, Nat.reduceMul, Nat.reduceLeDiff, Nat.reduceEqDiff, Nat.reduceBNe, Nat.ble_eq, UInt8.reduceToNat, UInt32.reduceToNat, q3, q5]
    refine ⟨fun _ => ⟨by decide, by decide, by decide, fun b hb => ?_⟩, fun h => (by cases h)⟩
    have hB : B ≠ b := fun e => by rw [← e, q3] at hb; cases hb
    have hM : M ≠ b := fun e => by rw [← e, q5] at hb; cases hb
    have hBM : B ≠ M := fun e => by rw [e, q5] at q3; cases q3
    have e1 : s0 b = none := Sub.none q1 hb
    simp -implicitDefEqProofs only [go_sem, start, startE, resVs, resV, resC, allV, retK, Nat.reduceBEq, Nat.reduceAdd, Nat.reduceMul, Nat.reduceLeDiff, Nat.reduceEqDiff, Nat.reduceBNe, Nat.ble_eq, UInt8.reduceToNat, UInt32.reduceToNat, set_ne hB, set_ne hM, q3, q5]
    refine ⟨⟨rfl, rfl, q6.keys⟩, ?_⟩
    simp -implicitDefEqProofs only [go_sem, start, startE, resVs, resV, resC, allV, retK, Nat.reduceBEq, Nat.reduceAdd, Nat.reduceMul, Nat.reduceLeDiff, Nat.reduceEqDiff, Nat.reduceBNe, Nat.ble_eq, UInt8.reduceToNat, UInt32.reduceToNat]
    refine ⟨⟨hm, Int.le_of_lt hm2, Int.le_refl _⟩, ?_⟩
    rw [srcV_sl, flat_views]
    have hss := SrcAt.put (k := w64 (a.tdiv 4096)) (l := List.replicate (Int.toNat 4096) (0 : UInt8)) hs q3 q5 hb (by rw [List.length_replicate]; rfl)
    refine cpy (o := (a.tmod 4096).toNat) (c := List.replicate (Int.toNat 4096) (0 : UInt8)) hss (by show Store.set (Store.set s' b _) M _ B = _; rw [set_ne hBM, set_ne hB]; exact q3) (set_same ..) e1 (by rw [findK_put _ _ _ q6, if_pos rfl]; rfl) (by show Store.set (Store.set s' b _) M _ b = _; rw [set_ne (Ne.symm hM), set_same]) (by rw [List.length_replicate]; rfl) (by omega) (arrOff_o (by omega)) (by simp; omega) fun s3 h3 => ?_
    simp -implicitDefEqProofs only [go_sem, start, startE, resVs, resV, resC, allV, retK, Nat.reduceBEq, Nat.reduceAdd, Nat.reduceMul, Nat.reduceLeDiff, Nat.reduceEqDiff, Nat.reduceBNe, Nat.ble_eq, UInt8.reduceToNat, UInt32.reduceToNat]
    rw [hsub, hlen]
    exact ⟨by omega, hj (List.replicate (Int.toNat 4096) (0 : UInt8)) (by rw [hmk]; rfl) s3 (by have h4 := h3; rw [upd_upd] at h4; exact h4)⟩
  | some c =>
    obtain ⟨w1, b, e, e1, e2⟩ : RowAt s0 s' es (w64 (a.tdiv 4096)) (some c) := by rw [show (SrcG.blk ⟨g.total, g.known, m⟩) (w64 (a.tdiv 4096)) = some c from hmk] at q7'; exact q7'
    rw [look_some q6 e]
    simp -implicitDefEqProofs only [go_sem, start, startE, resVs, resV, resC, allV, retK, Nat.reduceBEq, Nat.reduceAdd, Nat.reduceMul, Nat.reduceLeDiff, Nat.reduceEqDiff, Nat.reduceBNe, Nat.ble_eq, UInt8.reduceToNat, UInt32.reduceToNat, q3, q5]
    refine ⟨fun h => (by cases h), fun _ => ?_⟩
    refine ⟨⟨hm, Int.le_of_lt hm2, Int.le_refl _⟩, ?_⟩
    rw [srcV_sl, flat_views]
    refine cpy (o := (a.tmod 4096).toNat) hs q3 q5 e1 e e2 w1 (by omega) (arrOff_o (by omega)) (by omega) fun s3 h3 => ?_
    simp -implicitDefEqProofs only [go_sem, start, startE, resVs, resV, resC, allV, retK, Nat.reduceBEq, Nat.reduceAdd, Nat.reduceMul, Nat.reduceLeDiff, Nat.reduceEqDiff, Nat.reduceBNe, Nat.ble_eq, UInt8.reduceToNat, UInt32.reduceToNat]
    rw [hsub, hlen]
    exact ⟨by omega, hj c (by rw [hmk]; rfl) s3 h3⟩
def putB (a : Int) (l : List UInt8) (ms : List api_Span) : Int × Blk → Option ((Int × Blk) ⊕ Blk) := fun (k, m) =>
  if decide (k < (ms.length : Int)) then
    need (0 ≤ k ∧ k < ms.length ∧ (a ≤ (ix ms k).From ∧ (ix ms k).From ≤ (ix ms k).To ∧ (ix ms k).To ≤ a + l.length)) <|
    bnd (iter writeB ((ix ms k).From, part l ((ix ms k).From - a) ((ix ms k).To - a), m)) fun m' =>
    some (.inl (w64 (k + 1), m'))
  else some (.inr m)
def Source_Put (g : SrcG) (a : Int) (l : List UInt8) : Option (SrcG × Int) :=
  if decide (a < 0) || decide (a > g.total) then some (g, 2)
  else if decide ((l.length : Int) > w64 (g.total - a)) then some (g, 5)
  else
    bnd (Set_Missing g.known ⟨a, w64 (a + l.length)⟩) fun ms =>
    bnd (iter (putB a l ms) (0, g.blk)) fun m =>
    bnd (Set_Put g.known ⟨a, w64 (a + l.length)⟩) fun kn => some (⟨g.total, kn, m⟩, 0)
theorem Source_Put_fn {s0 s : Store} {B : Nat} {g : SrcG} {a : Int} {l : List UInt8} {Q : List AV → Store → Prop} (h : SrcAt s0 s B g) (ht : g.total ≤ 2147483647) : ok (Source_Put g a l) (fun r => ∀ s', SrcAt s0 s' B r.1 → Q [.int .i64 r.2] s') → FN Go.Proofs.Tryz.prog 68 [.ref B 0, .int .i64 a, .sl false 1 l.length (flat l)] s Q := by
  intro hh
  refine FN.weak (FN.of (draw_ok mix) is_Source_Put rfl (Nat.le_of_ble_eq_true rfl) ?_)
  rw [ir_Source_Put, res_Source_Put]
  simp -implicitDefEqProofs only [go_sem, start, startE, resVs, resV, resC, allV, retK, Nat.reduceBEq, Nat.reduceAdd, Nat.reduceMul, Nat.reduceLeDiff, Nat.reduceEqDiff, Nat.reduceBNe, Nat.ble_eq, UInt8.reduceToNat, UInt32.reduceToNat]
  refine Source_is_fn h ?_
  obtain ⟨cs, hs, hset⟩ := h.setAt
  have h3 : ∃ M, s B = some (.cells [.bool true, .int .i64 g.total, slv g.known, .mp M]) := by obtain ⟨_, _, M, _, h3, _⟩ := h; exact ⟨M, h3⟩
  obtain ⟨M, h3⟩ := h3
  revert hh
  rw [Source_Put]
  simp -implicitDefEqProofs only [go_sem, start, startE, resVs, resV, resC, allV, retK, Nat.reduceBEq, Nat.reduceAdd, Nat.reduceMul, Nat.reduceLeDiff, Nat.reduceEqDiff, Nat.reduceBNe, Nat.ble_eq, UInt8.reduceToNat, UInt32.reduceToNat, h3]
  rintro ⟨w1, w2⟩
  refine ⟨fun h => h.elim, fun _ => ⟨fun hc => ⟨s, Sub.refl s, w1 hc s h⟩, fun hc => ⟨fun hd => ⟨s, Sub.refl s, (w2 hc).1 hd s h⟩, fun hd => ?_⟩⟩⟩
  obtain ⟨ms, m1, hh⟩ := (w2 hc).2 hd
  refine ⟨[slw ms], rfl, Set_Missing_fn hs ⟨ms, m1, rfl, rfl⟩, ?_⟩
  clear w1 w2
  have hc1 : 0 ≤ a ∧ a ≤ g.total := by simp at hc; omega
  have hl : a + l.length ≤ g.total := by
    have hd : ¬ ((l.length : Int) > w64 (g.total - a)) := by simpa using hd
    rw [w64_id (by omega) (by omega)] at hd; omega
  have hw : w64 (a + l.length) = a + l.length := w64_id (by omega) (by omega)
  rw [hw] at hh ⊢
  simp -implicitDefEqProofs only [go_sem, start, startE, resVs, resV, resC, allV, retK, Nat.reduceBEq, Nat.reduceAdd, Nat.reduceMul, Nat.reduceLeDiff, Nat.reduceEqDiff, Nat.reduceBNe, Nat.ble_eq, UInt8.reduceToNat, UInt32.reduceToNat]
  revert hh
  refine iter_toR (fun k τ => ∃ s', τ = ⟨[(0, .ref B 0), (1, .int .i64 a), (2, .sl false 1 l.length (flat l)), (7, .loc [.int .i64 a, .int .i64 (a + l.length)]), (45, slw ms), (46, .int .i64 (ms.length : Nat)), (47, .int .i64 k.1)], [], s'⟩ ∧ SrcAt s0 s' B ⟨g.total, g.known, k.2⟩) ⟨s, rfl, h⟩ ?_
  rintro J ⟨k, m⟩ τ ⟨s', rfl, h'⟩
  obtain ⟨cs', hs', hset'⟩ := h'.setAt
  have hsub := h'.1
  rw [putB]
  simp -implicitDefEqProofs only [go_sem, start, startE, resVs, resV, resC, allV, retK, Nat.reduceBEq, Nat.reduceAdd, Nat.reduceMul, Nat.reduceLeDiff, Nat.reduceEqDiff, Nat.reduceBNe, Nat.ble_eq, UInt8.reduceToNat, UInt32.reduceToNat]
  rintro ⟨w1, w2⟩
  refine ⟨fun hk => ?_, fun hk => ?_⟩
  · obtain ⟨⟨k1, k2, k3, k4, k5⟩, w1⟩ := w1 hk
    refine ⟨⟨k1, k2⟩, ?_⟩
    rw [w64_id (n := (ix ms k).From - a) (by omega) (by omega), w64_id (n := (ix ms k).To - a) (by omega) (by omega)]
    refine ⟨⟨by omega, by omega, by omega⟩, ?_⟩
    refine Source_write_fn h' (by omega) ?_ (ok_mono w1 fun m' w1 s3 h3 => ?_)
    · have : (part l ((ix ms k).From - a) ((ix ms k).To - a)).length ≤ ((ix ms k).To - a - ((ix ms k).From - a)).toNat := by unfold part; exact List.length_take_le ..
      omega
    · simp -implicitDefEqProofs only [go_sem, start, startE, resVs, resV, resC, allV, retK, Nat.reduceBEq, Nat.reduceAdd, Nat.reduceMul, Nat.reduceLeDiff, Nat.reduceEqDiff, Nat.reduceBNe, Nat.ble_eq, UInt8.reduceToNat, UInt32.reduceToNat]
      exact w1 _ ⟨s3, rfl, h3⟩
  · have w2 := w2 hk
    refine Set_Put_fn (x := ⟨a, a + l.length⟩) hs' (ok_mono w2 fun kn hq => ?_)
    simp -implicitDefEqProofs only [go_sem, start, startE, resVs, resV, resC, allV, retK, Nat.reduceBEq, Nat.reduceAdd, Nat.reduceMul, Nat.reduceLeDiff, Nat.reduceEqDiff, Nat.reduceBNe, Nat.ble_eq, UInt8.reduceToNat, UInt32.reduceToNat]
    exact ⟨_, Sub.refl _, hq _ (hset' kn)⟩
theorem source_Whole_fn {s : Store} {l : List UInt8} {Q : List AV → Store → Prop} (hl : l.length ≤ 2147483647) : ok (Source_Put ⟨l.length, [], fun _ => none⟩ 0 l) (fun r => ∀ B s', SrcAt s s' B r.1 → Q [.ref B 0] s') → FN Go.Proofs.Tryz.prog 26 [.sl false 1 l.length (flat l)] s Q := by
  intro hh
  refine FN.weak (FN.of (draw_ok mix) is_source_Whole rfl (Nat.le_of_ble_eq_true rfl) ?_)
  rw [ir_source_Whole, res_source_Whole]
  simp -implicitDefEqProofs only [go_sem, start, startE, resVs, resV, resC, allV, retK, Nat.reduceBEq, Nat.reduceAdd, Nat.reduceMul, Nat.reduceLeDiff, Nat.reduceEqDiff, Nat.reduceBNe, Nat.ble_eq, UInt8.reduceToNat, UInt32.reduceToNat]
  refine source_New_fn (by omega) fun B s' h' => ?_
  simp -implicitDefEqProofs only [go_sem, start, startE, resVs, resV, resC, allV, retK, Nat.reduceBEq, Nat.reduceAdd, Nat.reduceMul, Nat.reduceLeDiff, Nat.reduceEqDiff, Nat.reduceBNe, Nat.ble_eq, UInt8.reduceToNat, UInt32.reduceToNat]
  refine ⟨fun h => h.elim, fun _ => Source_Put_fn h' (show (l.length : Int) ≤ 2147483647 by omega) (ok_mono hh fun r hq s3 h3 => ?_)⟩
  simp -implicitDefEqProofs only [go_sem, start, startE, resVs, resV, resC, allV, retK, Nat.reduceBEq, Nat.reduceAdd, Nat.reduceMul, Nat.reduceLeDiff, Nat.reduceEqDiff, Nat.reduceBNe, Nat.ble_eq, UInt8.reduceToNat, UInt32.reduceToNat]
  exact ⟨s3, Sub.refl _, hq B s3 h3⟩
end Go.AB
end
