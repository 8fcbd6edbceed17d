/- A part of the proof: Tk0, Tp1, Tp2, Tk1, Tk2, Tp0, Tp3. -/
import Derived.Test.YtpioecahefokmaaTreeWay4
set_option linter.unusedSimpArgs false
set_option linter.unusedVariables false
section
set_option maxRecDepth 4000
namespace Go.AB
open Go
/-- catchword/catchwordref11.Few -/
def ref11_Few : Nat → api_Value → Int → Option (Int)
  | 0, _, _ => none
  | fuel + 1, v_0, left_1 =>
    jn (
      iter (fun ((left2, k3) : Int × Int) =>
        if (decide (k3 < (v_0.L.length : Int))) && (decide (left2 ≥ 0)) then
          need (0 ≤ k3 ∧ k3 < v_0.L.length) <|
          bnd (ref11_Few fuel (ix v_0.L k3) left2) fun r5 =>
          some (.inl (r5, w64 (k3 + 1)))
        else
          some (.inr left2)) (w64 (left_1 - 1), 0)) fun (left1 : Int) =>
    some left1
def ir_ref11_Few : IC :=
 (.seq (.reg none [i1 2 (.boxL 4 (.t 0)),
 i1 4 (.mov false (.c (.int .i64 0)))] [1, 2])
 (.seq (.reg none [mv 6 1,
 i1 7 (.bin .sub (.t 6) (.c (.int .i64 1))),
 mv 1 7] [1, 2])
 (.join [(1, false)] (.seq (.reg none [i1 5 (.mov false (.c (.int .i64 0)))] [1, 2, 5])
 (.block 0 (.loop [(1, false), (2, false), (5, false)] (.seq (.seq (.reg none [mv 8 5,
 i1 9 (.fieldAddr 3 (.t 2)),
 i1 10 (.load 1 false (.t 9)),
 i1 11 (.len 0 (.t 10)),
 i1 12 (.bin .lss (.t 8) (.t 11)),
 mv 13 12,
 mvg 14 1 13 true,
 i1g 15 13 true (.bin .geq (.t 14) (.c (.int .i64 0))),
 i1 16 (.pick (.t 13) (.t 15) (.c (.bool false)))] [1, 2, 5, 16])
 (.cond (.t 16) .skip
 (.exit 0)))
 (.seq (.block 1 (.reg none [i1 19 (.fieldAddr 3 (.t 2)),
 i1 20 (.load 1 false (.t 19)),
 mv 21 5,
 i1 22 (.indexAddr [.int .i64 0, .int .i64 0, .str [], .sl false 4 0 []] (.t 20) (.t 21)),
 i1 23 (.load 4 true (.t 22)),
 mv 24 1,
 i1 25 (.call 11 [(.t 23), (.t 24)]),
 mv 1 25] [1, 2, 5]))
 (.reg none [mv 17 5,
 i1 18 (.bin .add (.t 17) (.c (.int .i64 1))),
 mv 5 18] [1, 2, 5]))))))
 (.seq (.reg none [mv 26 1,
 mv 4 26] [4])
 .ret))))
def res_ref11_Few : List IRes := [⟨4, true, none⟩]
theorem is_ref11_Few : fnIs Go.Proofs.Try.prog 11 27 res_ref11_Few ir_ref11_Few = true := by kernel_rfl
theorem ref11_Few_fn {fuel : Nat} : ∀ {v_0 : api_Value} {left_1 : Int} {s : Store} {Q : List AV → Store → Prop}, ok (ref11_Few fuel v_0 left_1) (fun r => Q [.int .i64 r] s) → FN Go.Proofs.Try.prog 11 [.agg [.int .i64 v_0.Kind, .int .i64 v_0.N, .str v_0.S.b, .sl false 4 v_0.L.length (flat v_0.L)], .int .i64 left_1] s Q := by
  induction fuel with
  | zero => intros; rename_i h; rw [ref11_Few] at h; exact absurd h (by rw [ok_none]; exact fun h => h)
  | succ fuel ih =>
  have ihfe : ∀ {v_0 : api_Value} {left_1 : Int} {s : Store} {r : Int}, ref11_Few fuel v_0 left_1 = some r → FE Go.Proofs.Try.prog 11 [.agg [.int .i64 v_0.Kind, .int .i64 v_0.N, .str v_0.S.b, .sl false 4 v_0.L.length (flat v_0.L)], .int .i64 left_1] s [.int .i64 r] s := fun h => ih ⟨_, h, rfl, rfl⟩
  intro v_0 left_1 s Q
  intro h
  refine FN.of (draw_ok mix) is_ref11_Few rfl (Nat.le_of_ble_eq_true rfl) ?_
  revert h
  rw [ir_ref11_Few, res_ref11_Few, ref11_Few]
  repeat' (first
    | with_reducible exact tt_to
    | with_reducible refine and_to ?_ ?_
    | with_reducible refine im_to ?_
    | with_reducible refine call_to (fun _ (h : ref11_Few fuel (ix v_0.L k3) left2 = some _) => ihfe h) (fun r5 => ?_)
    | with_reducible refine call_to_q (fun _ (h : ref11_Few fuel (ix v_0.L k3) left2 = some _) => ihfe h) (fun _ => rfl) (fun r5 => ?_)
    | with_reducible refine call_to (fun _ (h : ref11_Few fuel (ix v_0.L k3) left2 = some _) => (by have hx := ihfe (s := s) h; simp -implicitDefEqProofs only [go_sem, start, startE, resVs, resV, resC, allV, retK, Nat.reduceBEq, Nat.reduceAdd, Nat.reduceMul, Nat.reduceLeDiff, Nat.reduceEqDiff, Nat.reduceBNe, Nat.ble_eq, UInt8.reduceToNat] at hx; exact hx)) (fun r5 => ?_)
    | ((with_reducible refine iter_to (fun ((left2, k3) : Int × Int) => ⟨[(1, .int .i64 left2), (2, .loc [.int .i64 v_0.Kind, .int .i64 v_0.N, .str v_0.S.b, .sl false 4 v_0.L.length (flat v_0.L)]), (5, .int .i64 k3)], [], s⟩) ?_ ?_); (first | exact rfl | simp -implicitDefEqProofs only [go_sem, start, startE, resVs, resV, resC, allV, retK, Nat.reduceBEq, Nat.reduceAdd, Nat.reduceMul, Nat.reduceLeDiff, Nat.reduceEqDiff, Nat.reduceBNe, Nat.ble_eq, UInt8.reduceToNat]); rintro J ⟨left2, k3⟩)
    | ((with_reducible refine join_to (fun (left1 : Int) => ⟨[(1, .int .i64 left1)], [], s⟩) (fun J => ?_) ?_); rotate_left; rintro left1)
    | simp -implicitDefEqProofs only [go_sem, start, startE, resVs, resV, resC, allV, retK, Nat.reduceBEq, Nat.reduceAdd, Nat.reduceMul, Nat.reduceLeDiff, Nat.reduceEqDiff, Nat.reduceBNe, Nat.ble_eq, UInt8.reduceToNat])
theorem ref11_Few_fe {fuel : Nat} {v_0 left_1} {s : Store} {r : Int} (h : ref11_Few fuel v_0 left_1 = some r) : FE Go.Proofs.Try.prog 11 [.agg [.int .i64 v_0.Kind, .int .i64 v_0.N, .str v_0.S.b, .sl false 4 v_0.L.length (flat v_0.L)], .int .i64 left_1] s [.int .i64 r] s := ref11_Few_fn ⟨r, h, rfl, rfl⟩
/-- catchword/catchwordref14.texts -/
def ref14_texts : Nat → api_Value → Option (Bool)
  | 0, _ => none
  | fuel + 1, v_0 =>
    jnS (
      bndS (
        iter (fun (k3 : Int) =>
          if decide (k3 < (v_0.L.length : Int)) then
            need (0 ≤ k3 ∧ k3 < v_0.L.length) <|
            bnd (ref14_texts fuel (ix v_0.L k3)) fun r6 =>
            if !r6 then
              some (.inr (.inr false))
            else
              some (.inl (w64 (k3 + 1)))
          else
            some (.inr (.inl ()))) 0) (fun (_ : Unit) =>
        some (.inl ()))
      (fun (t5 : Bool) => some (.inr t5))) (fun (_ : Unit) =>
      some (decide ((v_0.S.b.length : Int) ≤ 300)))
    (fun (t2 : Bool) => some t2)
def ir_ref14_texts : IC :=
 (.seq (.reg none [i1 1 (.boxL 4 (.t 0)),
 i1 2 (.mov false (.c (.bool false)))] [1])
 (.join [(1, false)] (.seq (.reg none [i1 3 (.mov false (.c (.int .i64 0)))] [1, 3])
 (.block 0 (.loop [(1, false), (3, false)] (.seq (.seq (.reg none [mv 4 3,
 i1 5 (.fieldAddr 3 (.t 1)),
 i1 6 (.load 1 false (.t 5)),
 i1 7 (.len 0 (.t 6)),
 i1 8 (.bin .lss (.t 4) (.t 7))] [1, 3, 8])
 (.cond (.t 8) .skip
 (.exit 0)))
 (.seq (.block 1 (.seq (.reg none [i1 11 (.fieldAddr 3 (.t 1)),
 i1 12 (.load 1 false (.t 11)),
 mv 13 3,
 i1 14 (.indexAddr [.int .i64 0, .int .i64 0, .str [], .sl false 4 0 []] (.t 12) (.t 13)),
 i1 15 (.load 4 true (.t 14)),
 i1 16 (.call 102 [(.t 15)]),
 i1 17 (.un .not (.t 16))] [1, 3, 17])
 (.cond (.t 17) (.seq (.reg none [i1 2 (.mov false (.c (.bool false)))] [2])
 .ret)
 .skip)))
 (.reg none [mv 9 3,
 i1 10 (.bin .add (.t 9) (.c (.int .i64 1))),
 mv 3 10] [1, 3]))))))
 (.seq (.reg none [i1 18 (.fieldAddr 2 (.t 1)),
 i1 19 (.load 1 false (.t 18)),
 i1 20 (.len 1 (.t 19)),
 i1 21 (.bin .leq (.t 20) (.c (.int .i64 300))),
 mv 2 21] [2])
 .ret)))
def res_ref14_texts : List IRes := [⟨2, true, none⟩]
theorem is_ref14_texts : fnIs Go.Proofs.Try.prog 102 22 res_ref14_texts ir_ref14_texts = true := by kernel_rfl
theorem ref14_texts_fn {fuel : Nat} : ∀ {v_0 : api_Value} {s : Store} {Q : List AV → Store → Prop}, ok (ref14_texts fuel v_0) (fun r => Q [.bool r] s) → FN Go.Proofs.Try.prog 102 [.agg [.int .i64 v_0.Kind, .int .i64 v_0.N, .str v_0.S.b, .sl false 4 v_0.L.length (flat v_0.L)]] s Q := by
  induction fuel with
  | zero => intros; rename_i h; rw [ref14_texts] at h; exact absurd h (by rw [ok_none]; exact fun h => h)
  | succ fuel ih =>
  have ihfe : ∀ {v_0 : api_Value} {s : Store} {r : Bool}, ref14_texts fuel v_0 = some r → FE Go.Proofs.Try.prog 102 [.agg [.int .i64 v_0.Kind, .int .i64 v_0.N, .str v_0.S.b, .sl false 4 v_0.L.length (flat v_0.L)]] s [.bool r] s := fun h => ih ⟨_, h, rfl, rfl⟩
  intro v_0 s Q
  intro h
  refine FN.of (draw_ok mix) is_ref14_texts rfl (Nat.le_of_ble_eq_true rfl) ?_
  revert h
  rw [ir_ref14_texts, res_ref14_texts, ref14_texts]
  repeat' (first
    | with_reducible exact tt_to
    | with_reducible refine and_to ?_ ?_
    | with_reducible refine im_to ?_
    | with_reducible refine call_to (fun _ (h : ref14_texts fuel (ix v_0.L k3) = some _) => ihfe h) (fun r6 => ?_)
    | with_reducible refine call_to_q (fun _ (h : ref14_texts fuel (ix v_0.L k3) = some _) => ihfe h) (fun _ => rfl) (fun r6 => ?_)
    | with_reducible refine call_to (fun _ (h : ref14_texts fuel (ix v_0.L k3) = some _) => (by have hx := ihfe (s := s) h; simp -implicitDefEqProofs only [go_sem, start, startE, resVs, resV, resC, allV, retK, Nat.reduceBEq, Nat.reduceAdd, Nat.reduceMul, Nat.reduceLeDiff, Nat.reduceEqDiff, Nat.reduceBNe, Nat.ble_eq, UInt8.reduceToNat] at hx; exact hx)) (fun r6 => ?_)
    | ((with_reducible refine iter_to (fun (k3 : Int) => ⟨[(1, .loc [.int .i64 v_0.Kind, .int .i64 v_0.N, .str v_0.S.b, .sl false 4 v_0.L.length (flat v_0.L)]), (3, .int .i64 k3)], [], s⟩) ?_ ?_); (first | exact rfl | simp -implicitDefEqProofs only [go_sem, start, startE, resVs, resV, resC, allV, retK, Nat.reduceBEq, Nat.reduceAdd, Nat.reduceMul, Nat.reduceLeDiff, Nat.reduceEqDiff, Nat.reduceBNe, Nat.ble_eq, UInt8.reduceToNat]); rintro J k3)
    | ((with_reducible refine join_toS (fun (_ : Unit) => ⟨[(1, .loc [.int .i64 v_0.Kind, .int .i64 v_0.N, .str v_0.S.b, .sl false 4 v_0.L.length (flat v_0.L)])], [], s⟩) (fun J => ?_) ?_); rotate_left; rintro _)
    | simp -implicitDefEqProofs only [go_sem, start, startE, resVs, resV, resC, allV, retK, Nat.reduceBEq, Nat.reduceAdd, Nat.reduceMul, Nat.reduceLeDiff, Nat.reduceEqDiff, Nat.reduceBNe, Nat.ble_eq, UInt8.reduceToNat])
theorem ref14_texts_fe {fuel : Nat} {v_0} {s : Store} {r : Bool} (h : ref14_texts fuel v_0 = some r) : FE Go.Proofs.Try.prog 102 [.agg [.int .i64 v_0.Kind, .int .i64 v_0.N, .str v_0.S.b, .sl false 4 v_0.L.length (flat v_0.L)]] s [.bool r] s := ref14_texts_fn ⟨r, h, rfl, rfl⟩
structure api_Object where
  V : api_Value
  Stream : Bool
  Data : Str
instance : Enc api_Object := ⟨6, fun x => [.int .i64 x.V.Kind, .int .i64 x.V.N, .str x.V.S.b, .sl false 4 x.V.L.length (flat x.V.L), .bool x.Stream, .str x.Data.b], (api_Object.mk (api_Value.mk 0 0 (Str.mk []) []) false (Str.mk [])), by decide, fun _ => rfl, fun _ => rfl⟩
@[go_sem] theorem cells_api_Object (x : api_Object) : Enc.cells x = [.int .i64 x.V.Kind, .int .i64 x.V.N, .str x.V.S.b, .sl false 4 x.V.L.length (flat x.V.L), .bool x.Stream, .str x.Data.b] := rfl
@[go_sem] theorem w_api_Object : Enc.w api_Object = 6 := rfl
@[go_sem] theorem pad_api_Object (l : List api_Object) (i : Int) : pad [.int .i64 0, .int .i64 0, .str [], .sl false 4 0 [], .bool false, .str []] (views (AB.sub (flat l) (i.toNat * 6) 6)) = [.int .i64 (((ix l i).V).Kind), .int .i64 (((ix l i).V).N), .str (((ix l i).V).S).b, .sl false 4 (((ix l i).V).L).length (flat (((ix l i).V).L)), .bool ((ix l i).Stream), .str ((ix l i).Data).b] := by
  rw [← cells_api_Object]; exact flat_pad _ 6 l i (by rw [cells_api_Object]; rfl) rfl
@[go_sem] theorem mk_api_Object (x : api_Object) : api_Object.mk x.V x.Stream x.Data = x := by cases x; rfl
/-- catchword/catchwordref14.Few -/
def ref14_Few (o_0 : api_Object) (data_1 : Int) : Option (Bool) :=
  bnd (ref11_Few bigN o_0.V 300) fun r1 =>
  bnd (whenB ((decide (r1 ≥ 0)) && (decide ((o_0.Data.b.length : Int) ≤ data_1))) false (ref14_texts bigN o_0.V)) fun r2 =>
  some (((decide (r1 ≥ 0)) && (decide ((o_0.Data.b.length : Int) ≤ data_1))) && r2)
def ir_ref14_Few : IC :=
 (.seq (.reg none [i1 2 (.boxL 6 (.t 0)),
 i1 4 (.mov false (.c (.bool false)))] [1, 2])
 (.seq (.reg (some 15) [i1 5 (.fieldAddr 0 (.t 2)),
 i1 6 (.load 4 true (.t 5)),
 i1 7 (.call 11 [(.t 6), (.c (.int .i64 300))]),
 i1 8 (.bin .geq (.t 7) (.c (.int .i64 0))),
 mv 9 8,
 i1g 10 9 true (.fieldAddr 5 (.t 2)),
 i1g 11 9 true (.load 1 false (.t 10)),
 i1g 12 9 true (.len 1 (.t 11)),
 mvg 13 1 9 true,
 i1g 14 9 true (.bin .leq (.t 12) (.t 13)),
 i1 15 (.pick (.t 9) (.t 14) (.c (.bool false))),
 mv 16 15,
 i1g 17 16 true (.fieldAddr 0 (.t 2)),
 i1g 18 16 true (.load 4 true (.t 17)),
 i1g 19 16 true (.call 102 [(.t 18)]),
 i1 20 (.pick (.t 16) (.t 19) (.c (.bool false))),
 mv 4 20] [4])
 .ret))
def res_ref14_Few : List IRes := [⟨4, true, none⟩]
theorem is_ref14_Few : fnIs Go.Proofs.Try.prog 60 21 res_ref14_Few ir_ref14_Few = true := by kernel_rfl
theorem ref14_Few_fn {o_0 data_1} {s : Store} {Q : List AV → Store → Prop}  : ok (ref14_Few o_0 data_1) (fun r => Q [.bool r] s) → FN Go.Proofs.Try.prog 60 [.agg [.int .i64 o_0.V.Kind, .int .i64 o_0.V.N, .str o_0.V.S.b, .sl false 4 o_0.V.L.length (flat o_0.V.L), .bool o_0.Stream, .str o_0.Data.b], .int .i64 data_1] s Q := by
  intro h
  refine FN.of (draw_ok mix) is_ref14_Few rfl (Nat.le_of_ble_eq_true rfl) ?_
  revert h
  rw [ir_ref14_Few, res_ref14_Few, ref14_Few]
  repeat' (first
    | with_reducible exact tt_to
    | with_reducible refine and_to ?_ ?_
    | with_reducible refine im_to ?_
    | with_reducible refine call_to (fun _ (h : ref11_Few bigN o_0.V 300 = some _) => ref11_Few_fe h) (fun r1 => ?_)
    | with_reducible refine call_to_q (fun _ (h : ref11_Few bigN o_0.V 300 = some _) => ref11_Few_fe h) (fun _ => rfl) (fun r1 => ?_)
    | with_reducible refine call_to (fun _ (h : ref11_Few bigN o_0.V 300 = some _) => (by refine FE_cast ?_ (ref11_Few_fe h); simp -implicitDefEqProofs only [go_sem, start, startE, resVs, resV, resC, allV, retK, Nat.reduceBEq, Nat.reduceAdd, Nat.reduceMul, Nat.reduceLeDiff, Nat.reduceEqDiff, Nat.reduceBNe, Nat.ble_eq, UInt8.reduceToNat])) (fun r1 => ?_)
    | with_reducible refine call_to_q (fun _ (h : ref11_Few bigN o_0.V 300 = some _) => (by refine FE_cast ?_ (ref11_Few_fe h); simp -implicitDefEqProofs only [go_sem, start, startE, resVs, resV, resC, allV, retK, Nat.reduceBEq, Nat.reduceAdd, Nat.reduceMul, Nat.reduceLeDiff, Nat.reduceEqDiff, Nat.reduceBNe, Nat.ble_eq, UInt8.reduceToNat])) (fun _ => rfl) (fun r1 => ?_)
    | with_reducible refine call_to_g rfl (fun _ (h : ref14_texts bigN o_0.V = some _) => ref14_texts_fe h) (fun _ => rfl) (fun r2 => ?_)
    | with_reducible refine call_to_g rfl (fun _ (h : ref14_texts bigN o_0.V = some _) => (by refine FE_cast ?_ (ref14_texts_fe h); simp -implicitDefEqProofs only [go_sem, start, startE, resVs, resV, resC, allV, retK, Nat.reduceBEq, Nat.reduceAdd, Nat.reduceMul, Nat.reduceLeDiff, Nat.reduceEqDiff, Nat.reduceBNe, Nat.ble_eq, UInt8.reduceToNat])) (fun _ => rfl) (fun r2 => ?_)
    | simp -implicitDefEqProofs only [go_sem, start, startE, resVs, resV, resC, allV, retK, Nat.reduceBEq, Nat.reduceAdd, Nat.reduceMul, Nat.reduceLeDiff, Nat.reduceEqDiff, Nat.reduceBNe, Nat.ble_eq, UInt8.reduceToNat])
theorem ref14_Few_fe {o_0 data_1} {s : Store} {r : Bool}  (h : ref14_Few o_0 data_1 = some r) : FE Go.Proofs.Try.prog 60 [.agg [.int .i64 o_0.V.Kind, .int .i64 o_0.V.N, .str o_0.V.S.b, .sl false 4 o_0.V.L.length (flat o_0.V.L), .bool o_0.Stream, .str o_0.Data.b], .int .i64 data_1] s [.bool r] s := ref14_Few_fn   ⟨r, h, rfl, rfl⟩
/-- catchword/catchwordref19.Few -/
def ref19_Few (l_0 : (List api_Object)) (most_1 : Int) : Option (Bool) :=
  if decide ((l_0.length : Int) > most_1) then
    some false
  else
    jnS (
      bndS (
        iter (fun (k2 : Int) =>
          if decide (k2 < (l_0.length : Int)) then
            need (0 ≤ k2 ∧ k2 < l_0.length) <|
            bnd (ref14_Few (ix l_0 k2) 300) fun r4 =>
            if !r4 then
              some (.inr (.inr false))
            else
              some (.inl (w64 (k2 + 1)))
          else
            some (.inr (.inl ()))) 0) (fun (_ : Unit) =>
        some (.inl ()))
      (fun (t3 : Bool) => some (.inr t3))) (fun (_ : Unit) =>
      some true)
    (fun (t1 : Bool) => some t1)
def ir_ref19_Few : IC :=
 (.seq (.reg none [i1 4 (.mov false (.c (.bool false)))] [0, 1])
 (.seq (.seq (.reg none [mv 6 0,
 i1 7 (.len 0 (.t 6)),
 mv 8 1,
 i1 9 (.bin .gtr (.t 7) (.t 8))] [0, 9])
 (.cond (.t 9) (.seq (.reg none [i1 4 (.mov false (.c (.bool false)))] [4])
 .ret)
 .skip))
 (.join [] (.seq (.reg none [i1 5 (.mov false (.c (.int .i64 0)))] [0, 5])
 (.block 0 (.loop [(0, true), (5, false)] (.seq (.seq (.reg none [mv 10 5,
 mv 11 0,
 i1 12 (.len 0 (.t 11)),
 i1 13 (.bin .lss (.t 10) (.t 12))] [0, 5, 13])
 (.cond (.t 13) .skip
 (.exit 0)))
 (.seq (.block 1 (.seq (.reg none [mv 16 0,
 mv 17 5,
 i1 18 (.indexAddr [.int .i64 0, .int .i64 0, .str [], .sl false 4 0 [], .bool false, .str []] (.t 16) (.t 17)),
 i1 19 (.load 6 true (.t 18)),
 i1 20 (.call 60 [(.t 19), (.c (.int .i64 300))]),
 i1 21 (.un .not (.t 20))] [0, 5, 21])
 (.cond (.t 21) (.seq (.reg none [i1 4 (.mov false (.c (.bool false)))] [4])
 .ret)
 .skip)))
 (.reg none [mv 14 5,
 i1 15 (.bin .add (.t 14) (.c (.int .i64 1))),
 mv 5 15] [0, 5]))))))
 (.seq (.reg none [i1 4 (.mov false (.c (.bool true)))] [4])
 .ret))))
def res_ref19_Few : List IRes := [⟨4, true, none⟩]
theorem is_ref19_Few : fnIs Go.Proofs.Try.prog 18 22 res_ref19_Few ir_ref19_Few = true := by kernel_rfl
theorem ref19_Few_fn {l_0 most_1} {s : Store} {Q : List AV → Store → Prop}  : ok (ref19_Few l_0 most_1) (fun r => Q [.bool r] s) → FN Go.Proofs.Try.prog 18 [.sl false 6 l_0.length (flat l_0), .int .i64 most_1] s Q := by
  intro h
  refine FN.of (draw_ok mix) is_ref19_Few rfl (Nat.le_of_ble_eq_true rfl) ?_
  revert h
  rw [ir_ref19_Few, res_ref19_Few, ref19_Few]
  repeat' (first
    | with_reducible exact tt_to
    | with_reducible refine and_to ?_ ?_
    | with_reducible refine im_to ?_
    | with_reducible refine call_to (fun _ (h : ref14_Few (ix l_0 k2) 300 = some _) => ref14_Few_fe h) (fun r4 => ?_)
    | with_reducible refine call_to_q (fun _ (h : ref14_Few (ix l_0 k2) 300 = some _) => ref14_Few_fe h) (fun _ => rfl) (fun r4 => ?_)
    | with_reducible refine call_to (fun _ (h : ref14_Few (ix l_0 k2) 300 = some _) => (by refine FE_cast ?_ (ref14_Few_fe h); simp -implicitDefEqProofs only [go_sem, start, startE, resVs, resV, resC, allV, retK, Nat.reduceBEq, Nat.reduceAdd, Nat.reduceMul, Nat.reduceLeDiff, Nat.reduceEqDiff, Nat.reduceBNe, Nat.ble_eq, UInt8.reduceToNat])) (fun r4 => ?_)
    | with_reducible refine call_to_q (fun _ (h : ref14_Few (ix l_0 k2) 300 = some _) => (by refine FE_cast ?_ (ref14_Few_fe h); simp -implicitDefEqProofs only [go_sem, start, startE, resVs, resV, resC, allV, retK, Nat.reduceBEq, Nat.reduceAdd, Nat.reduceMul, Nat.reduceLeDiff, Nat.reduceEqDiff, Nat.reduceBNe, Nat.ble_eq, UInt8.reduceToNat])) (fun _ => rfl) (fun r4 => ?_)
    | ((with_reducible refine iter_to (fun (k2 : Int) => ⟨[(0, .sl false 6 l_0.length (flat l_0)), (5, .int .i64 k2)], [], s⟩) ?_ ?_); (first | exact rfl | simp -implicitDefEqProofs only [go_sem, start, startE, resVs, resV, resC, allV, retK, Nat.reduceBEq, Nat.reduceAdd, Nat.reduceMul, Nat.reduceLeDiff, Nat.reduceEqDiff, Nat.reduceBNe, Nat.ble_eq, UInt8.reduceToNat]); rintro J k2)
    | ((with_reducible refine join_toS (fun (_ : Unit) => ⟨[], [], s⟩) (fun J => ?_) ?_); rotate_left; rintro _)
    | simp -implicitDefEqProofs only [go_sem, start, startE, resVs, resV, resC, allV, retK, Nat.reduceBEq, Nat.reduceAdd, Nat.reduceMul, Nat.reduceLeDiff, Nat.reduceEqDiff, Nat.reduceBNe, Nat.ble_eq, UInt8.reduceToNat])
theorem ref19_Few_fe {l_0 most_1} {s : Store} {r : Bool}  (h : ref19_Few l_0 most_1 = some r) : FE Go.Proofs.Try.prog 18 [.sl false 6 l_0.length (flat l_0), .int .i64 most_1] s [.bool r] s := ref19_Few_fn   ⟨r, h, rfl, rfl⟩
/-- catchword/value.RefTo -/
def value_RefTo (n_0 : Int) : Option (api_Value) :=
  some (api_Value.mk 8 n_0 (Str.mk []) ([] : List api_Value))
def ir_value_RefTo : IC :=
 (.seq (.reg none [i1 2 (.allocL [.int .i64 0, .int .i64 0, .str [], .sl true 4 0 []])] [0, 2])
 (.seq (.reg none [mv 3 0,
 i1 4 (.build [.int .i64 0, .int .i64 0, .str [], .sl true 4 0 []] [(0, 1, (.c (.int .i64 8))), (1, 1, (.t 3))]),
 i0 (.store 4 (.t 2) (.t 4))] [2])
 .ret))
def res_value_RefTo : List IRes := [⟨2, false, some (4, true)⟩]
theorem is_value_RefTo : fnIs Go.Proofs.Try.prog 52 5 res_value_RefTo ir_value_RefTo = true := by kernel_rfl
theorem value_RefTo_fn {n_0} {s : Store} {Q : List AV → Store → Prop}  : ok (value_RefTo n_0) (fun r => Q [.agg [.int .i64 r.Kind, .int .i64 r.N, .str r.S.b, .sl false 4 r.L.length (flat r.L)]] s) → FN Go.Proofs.Try.prog 52 [.int .i64 n_0] s Q := by
  intro h
  refine FN.of (draw_ok mix) is_value_RefTo rfl (Nat.le_of_ble_eq_true rfl) ?_
  revert h
  rw [ir_value_RefTo, res_value_RefTo, value_RefTo]
  repeat' (first
    | with_reducible exact tt_to
    | with_reducible refine and_to ?_ ?_
    | with_reducible refine im_to ?_
    | simp -implicitDefEqProofs only [go_sem, start, startE, resVs, resV, resC, allV, retK, Nat.reduceBEq, Nat.reduceAdd, Nat.reduceMul, Nat.reduceLeDiff, Nat.reduceEqDiff, Nat.reduceBNe, Nat.ble_eq, UInt8.reduceToNat])
theorem value_RefTo_fe {n_0} {s : Store} {r : api_Value}  (h : value_RefTo n_0 = some r) : FE Go.Proofs.Try.prog 52 [.int .i64 n_0] s [.agg [.int .i64 r.Kind, .int .i64 r.N, .str r.S.b, .sl false 4 r.L.length (flat r.L)]] s := value_RefTo_fn   ⟨r, h, rfl, rfl⟩
/-- catchword/value.DictOf -/
def value_DictOf (l_0 : (List api_Value)) : Option (api_Value) :=
  jn (
    iter (fun ((v3, i4) : api_Value × Int) =>
      if decide (w64 (i4 + 1) < (l_0.length : Int)) then
        need (0 ≤ i4 ∧ i4 < l_0.length) <|
        need (0 ≤ w64 (i4 + 1) ∧ w64 (i4 + 1) < l_0.length) <|
        bnd (value_Put v3 ((ix l_0 i4).S) (ix l_0 (w64 (i4 + 1)))) fun r7 =>
        some (.inl (r7, w64 (i4 + 2)))
      else
        some (.inr v3)) ((api_Value.mk 7 0 (Str.mk []) ([] : List api_Value)), 0)) fun (v2 : api_Value) =>
  some v2
def ir_value_DictOf : IC :=
 (.seq (.reg none [i1 2 (.allocL [.int .i64 0, .int .i64 0, .str [], .sl true 4 0 []])] [0, 2])
 (.seq (.reg none [i1 5 (.build [.int .i64 0, .int .i64 0, .str [], .sl true 4 0 []] [(0, 1, (.c (.int .i64 7)))]),
 i1 3 (.allocL [.int .i64 0, .int .i64 0, .str [], .sl true 4 0 []]),
 i0 (.store 4 (.t 3) (.t 5))] [0, 2, 3])
 (.join [(2, false), (3, false)] (.seq (.reg none [i1 4 (.mov false (.c (.int .i64 0)))] [0, 2, 3, 4])
 (.block 0 (.loop [(0, true), (2, false), (3, false), (4, false)] (.seq (.seq (.reg none [mv 6 4,
 i1 7 (.bin .add (.t 6) (.c (.int .i64 1))),
 mv 8 0,
 i1 9 (.len 0 (.t 8)),
 i1 10 (.bin .lss (.t 7) (.t 9))] [0, 2, 3, 4, 10])
 (.cond (.t 10) .skip
 (.exit 0)))
 (.seq (.block 1 (.reg (some 12) [i1 13 (.load 4 true (.t 3)),
 mv 14 0,
 mv 15 4,
 i1 16 (.indexAddr [.int .i64 0, .int .i64 0, .str [], .sl false 4 0 []] (.t 14) (.t 15)),
 i1 17 (.fieldAddr 2 (.t 16)),
 i1 18 (.load 1 false (.t 17)),
 mv 19 0,
 mv 20 4,
 i1 21 (.bin .add (.t 20) (.c (.int .i64 1))),
 i1 22 (.indexAddr [.int .i64 0, .int .i64 0, .str [], .sl false 4 0 []] (.t 19) (.t 21)),
 i1 23 (.load 4 true (.t 22)),
 i1 24 (.call 97 [(.t 13), (.t 18), (.t 23)]),
 i0 (.store 4 (.t 3) (.t 24))] [0, 2, 3, 4]))
 (.reg none [mv 11 4,
 i1 12 (.bin .add (.t 11) (.c (.int .i64 2))),
 mv 4 12] [0, 2, 3, 4]))))))
 (.seq (.reg none [i1 25 (.load 4 true (.t 3)),
 i0 (.store 4 (.t 2) (.t 25))] [2])
 .ret))))
def res_value_DictOf : List IRes := [⟨2, false, some (4, true)⟩]
theorem is_value_DictOf : fnIs Go.Proofs.Try.prog 53 26 res_value_DictOf ir_value_DictOf = true := by kernel_rfl
theorem value_DictOf_fn {l_0} {s : Store} {Q : List AV → Store → Prop}  : ok (value_DictOf l_0) (fun r => Q [.agg [.int .i64 r.Kind, .int .i64 r.N, .str r.S.b, .sl false 4 r.L.length (flat r.L)]] s) → FN Go.Proofs.Try.prog 53 [.sl false 4 l_0.length (flat l_0)] s Q := by
  intro h
  refine FN.of (draw_ok mix) is_value_DictOf rfl (Nat.le_of_ble_eq_true rfl) ?_
  revert h
  rw [ir_value_DictOf, res_value_DictOf, value_DictOf]
  repeat' (first
    | with_reducible exact tt_to
    | with_reducible refine and_to ?_ ?_
    | with_reducible refine im_to ?_
    | with_reducible refine call_to (fun _ (h : value_Put v3 ((ix l_0 i4).S) (ix l_0 (w64 (i4 + 1))) = some _) => value_Put_fe h) (fun r7 => ?_)
    | with_reducible refine call_to_q (fun _ (h : value_Put v3 ((ix l_0 i4).S) (ix l_0 (w64 (i4 + 1))) = some _) => value_Put_fe h) (fun _ => rfl) (fun r7 => ?_)
    | with_reducible refine call_to (fun _ (h : value_Put v3 ((ix l_0 i4).S) (ix l_0 (w64 (i4 + 1))) = some _) => (by refine FE_cast ?_ (value_Put_fe h); simp -implicitDefEqProofs only [go_sem, start, startE, resVs, resV, resC, allV, retK, Nat.reduceBEq, Nat.reduceAdd, Nat.reduceMul, Nat.reduceLeDiff, Nat.reduceEqDiff, Nat.reduceBNe, Nat.ble_eq, UInt8.reduceToNat])) (fun r7 => ?_)
    | with_reducible refine call_to_q (fun _ (h : value_Put v3 ((ix l_0 i4).S) (ix l_0 (w64 (i4 + 1))) = some _) => (by refine FE_cast ?_ (value_Put_fe h); simp -implicitDefEqProofs only [go_sem, start, startE, resVs, resV, resC, allV, retK, Nat.reduceBEq, Nat.reduceAdd, Nat.reduceMul, Nat.reduceLeDiff, Nat.reduceEqDiff, Nat.reduceBNe, Nat.ble_eq, UInt8.reduceToNat])) (fun _ => rfl) (fun r7 => ?_)
    | ((with_reducible refine iter_to (fun ((v3, i4) : api_Value × Int) => ⟨[(0, .sl false 4 l_0.length (flat l_0)), (2, .loc [.int .i64 0, .int .i64 0, .str (Str.mk []).b, .sl true 4 ([] : List api_Value).length (flat ([] : List api_Value))]), (3, .loc [.int .i64 v3.Kind, .int .i64 v3.N, .str v3.S.b, .sl false 4 v3.L.length (flat v3.L)]), (4, .int .i64 i4)], [], s⟩) ?_ ?_); (first | exact rfl | simp -implicitDefEqProofs only [go_sem, start, startE, resVs, resV, resC, allV, retK, Nat.reduceBEq, Nat.reduceAdd, Nat.reduceMul, Nat.reduceLeDiff, Nat.reduceEqDiff, Nat.reduceBNe, Nat.ble_eq, UInt8.reduceToNat]); rintro J ⟨v3, i4⟩)
    | ((with_reducible refine join_to (fun (v2 : api_Value) => ⟨[(2, .loc [.int .i64 0, .int .i64 0, .str (Str.mk []).b, .sl true 4 ([] : List api_Value).length (flat ([] : List api_Value))]), (3, .loc [.int .i64 v2.Kind, .int .i64 v2.N, .str v2.S.b, .sl false 4 v2.L.length (flat v2.L)])], [], s⟩) (fun J => ?_) ?_); rotate_left; rintro v2)
    | simp -implicitDefEqProofs only [go_sem, start, startE, resVs, resV, resC, allV, retK, Nat.reduceBEq, Nat.reduceAdd, Nat.reduceMul, Nat.reduceLeDiff, Nat.reduceEqDiff, Nat.reduceBNe, Nat.ble_eq, UInt8.reduceToNat])
theorem value_DictOf_fe {l_0} {s : Store} {r : api_Value}  (h : value_DictOf l_0 = some r) : FE Go.Proofs.Try.prog 53 [.sl false 4 l_0.length (flat l_0)] s [.agg [.int .i64 r.Kind, .int .i64 r.N, .str r.S.b, .sl false 4 r.L.length (flat r.L)]] s := value_DictOf_fn   ⟨r, h, rfl, rfl⟩
/-- catchword/value.IntOf -/
def value_IntOf (n_0 : Int) : Option (api_Value) :=
  some (api_Value.mk 2 n_0 (Str.mk []) ([] : List api_Value))
def ir_value_IntOf : IC :=
 (.seq (.reg none [i1 2 (.allocL [.int .i64 0, .int .i64 0, .str [], .sl true 4 0 []])] [0, 2])
 (.seq (.reg none [mv 3 0,
 i1 4 (.build [.int .i64 0, .int .i64 0, .str [], .sl true 4 0 []] [(0, 1, (.c (.int .i64 2))), (1, 1, (.t 3))]),
 i0 (.store 4 (.t 2) (.t 4))] [2])
 .ret))
def res_value_IntOf : List IRes := [⟨2, false, some (4, true)⟩]
theorem is_value_IntOf : fnIs Go.Proofs.Try.prog 103 5 res_value_IntOf ir_value_IntOf = true := by kernel_rfl
theorem value_IntOf_fn {n_0} {s : Store} {Q : List AV → Store → Prop}  : ok (value_IntOf n_0) (fun r => Q [.agg [.int .i64 r.Kind, .int .i64 r.N, .str r.S.b, .sl false 4 r.L.length (flat r.L)]] s) → FN Go.Proofs.Try.prog 103 [.int .i64 n_0] s Q := by
  intro h
  refine FN.of (draw_ok mix) is_value_IntOf rfl (Nat.le_of_ble_eq_true rfl) ?_
  revert h
  rw [ir_value_IntOf, res_value_IntOf, value_IntOf]
  repeat' (first
    | with_reducible exact tt_to
    | with_reducible refine and_to ?_ ?_
    | with_reducible refine im_to ?_
    | simp -implicitDefEqProofs only [go_sem, start, startE, resVs, resV, resC, allV, retK, Nat.reduceBEq, Nat.reduceAdd, Nat.reduceMul, Nat.reduceLeDiff, Nat.reduceEqDiff, Nat.reduceBNe, Nat.ble_eq, UInt8.reduceToNat])
theorem value_IntOf_fe {n_0} {s : Store} {r : api_Value}  (h : value_IntOf n_0 = some r) : FE Go.Proofs.Try.prog 103 [.int .i64 n_0] s [.agg [.int .i64 r.Kind, .int .i64 r.N, .str r.S.b, .sl false 4 r.L.length (flat r.L)]] s := value_IntOf_fn   ⟨r, h, rfl, rfl⟩
structure api_Doc where
  Objects : (List api_Object)
  Root : Int
instance : Enc api_Doc := ⟨2, fun x => [.sl false 6 x.Objects.length (flat x.Objects), .int .i64 x.Root], (api_Doc.mk [] 0), by decide, fun _ => rfl, fun _ => rfl⟩
@[go_sem] theorem cells_api_Doc (x : api_Doc) : Enc.cells x = [.sl false 6 x.Objects.length (flat x.Objects), .int .i64 x.Root] := rfl
@[go_sem] theorem w_api_Doc : Enc.w api_Doc = 2 := rfl
@[go_sem] theorem pad_api_Doc (l : List api_Doc) (i : Int) : pad [.sl false 6 0 [], .int .i64 0] (views (AB.sub (flat l) (i.toNat * 2) 2)) = [.sl false 6 ((ix l i).Objects).length (flat ((ix l i).Objects)), .int .i64 ((ix l i).Root)] := by
  rw [← cells_api_Doc]; exact flat_pad _ 2 l i (by rw [cells_api_Doc]; rfl) rfl
@[go_sem] theorem mk_api_Doc (x : api_Doc) : api_Doc.mk x.Objects x.Root = x := by cases x; rfl
/-- catchword/catchwordlaw20.small -/
def law20_small  : Option (api_Doc) :=
  bnd (value_NameOf (Str.mk [84, 121, 112, 101])) fun r1 =>
  bnd (value_NameOf (Str.mk [67, 97, 116, 97, 108, 111, 103])) fun r2 =>
  bnd (value_NameOf (Str.mk [80, 97, 103, 101, 115])) fun r3 =>
  bnd (value_RefTo 2) fun r4 =>
  bnd (value_DictOf [r1, r2, r3, r4]) fun r5 =>
  bnd (value_NameOf (Str.mk [84, 121, 112, 101])) fun r6 =>
  bnd (value_NameOf (Str.mk [80, 97, 103, 101, 115])) fun r7 =>
  bnd (value_NameOf (Str.mk [75, 105, 100, 115])) fun r8 =>
  bnd (value_RefTo 3) fun r9 =>
  bnd (value_NameOf (Str.mk [67, 111, 117, 110, 116])) fun r10 =>
  bnd (value_IntOf 1) fun r11 =>
  bnd (value_NameOf (Str.mk [82, 111, 116, 97, 116, 101])) fun r12 =>
  bnd (value_IntOf 90) fun r13 =>
  bnd (value_DictOf [r6, r7, r8, (api_Value.mk 6 0 (Str.mk []) [r9]), r10, r11, r12, r13]) fun r14 =>
  bnd (value_NameOf (Str.mk [84, 121, 112, 101])) fun r15 =>
  bnd (value_NameOf (Str.mk [80, 97, 103, 101])) fun r16 =>
  bnd (value_NameOf (Str.mk [80, 97, 114, 101, 110, 116])) fun r17 =>
  bnd (value_RefTo 2) fun r18 =>
  bnd (value_DictOf [r15, r16, r17, r18]) fun r19 =>
  some (api_Doc.mk [(api_Object.mk r5 false (Str.mk [])), (api_Object.mk r14 false (Str.mk [])), (api_Object.mk r19 false (Str.mk []))] 1)
theorem fnok_51 : (fnOK Go.Proofs.Try.prog 51 = true) = True := eq_true (by kernel_rfl)
theorem fnok_52 : (fnOK Go.Proofs.Try.prog 52 = true) = True := eq_true (by kernel_rfl)
def ir_law20_small : IC :=
 (.seq (.reg none [i1 0 (.allocL [.sl true 6 0 [], .int .i64 0])] [0])
 (.seq (.reg none [i1 1 (.mov false (.c (.fn 51 [] []))),
 i1 2 (.mov false (.c (.fn 52 [] [])))] [0, 1, 2])
 (.seq (.reg none [mv 6 1,
 i1 7 (.callv (.t 6) [(.c (.str [84, 121, 112, 101]))]),
 mv 8 1,
 i1 9 (.callv (.t 8) [(.c (.str [67, 97, 116, 97, 108, 111, 103]))]),
 mv 10 1,
 i1 11 (.callv (.t 10) [(.c (.str [80, 97, 103, 101, 115]))]),
 mv 12 2,
 i1 13 (.callv (.t 12) [(.c (.int .i64 2))]),
 i1 14 (.buildSl 4 4 [.int .i64 0, .int .i64 0, .str [], .sl true 4 0 [], .int .i64 0, .int .i64 0, .str [], .sl true 4 0 [], .int .i64 0, .int .i64 0, .str [], .sl true 4 0 [], .int .i64 0, .int .i64 0, .str [], .sl true 4 0 []] [(0, 4, (.t 7)), (4, 4, (.t 9)), (8, 4, (.t 11)), (12, 4, (.t 13))]),
 i1 15 (.call 53 [(.t 14)]),
 i1 3 (.allocL [.int .i64 0, .int .i64 0, .str [], .sl true 4 0 []]),
 i0 (.store 4 (.t 3) (.t 15))] [0, 1, 2, 3])
 (.seq (.reg none [mv 16 1,
 i1 17 (.callv (.t 16) [(.c (.str [84, 121, 112, 101]))]),
 mv 18 1,
 i1 19 (.callv (.t 18) [(.c (.str [80, 97, 103, 101, 115]))]),
 mv 20 1,
 i1 21 (.callv (.t 20) [(.c (.str [75, 105, 100, 115]))]),
 mv 22 2,
 i1 23 (.callv (.t 22) [(.c (.int .i64 3))]),
 i1 24 (.buildSl 4 1 [.int .i64 0, .int .i64 0, .str [], .sl true 4 0 []] [(0, 4, (.t 23))]),
 i1 25 (.build [.int .i64 0, .int .i64 0, .str [], .sl true 4 0 []] [(0, 1, (.c (.int .i64 6))), (3, 1, (.t 24))]),
 mv 26 1,
 i1 27 (.callv (.t 26) [(.c (.str [67, 111, 117, 110, 116]))]),
 i1 28 (.call 103 [(.c (.int .i64 1))]),
 mv 29 1,
 i1 30 (.callv (.t 29) [(.c (.str [82, 111, 116, 97, 116, 101]))]),
 i1 31 (.call 103 [(.c (.int .i64 90))]),
 i1 32 (.buildSl 4 8 [.int .i64 0, .int .i64 0, .str [], .sl true 4 0 [], .int .i64 0, .int .i64 0, .str [], .sl true 4 0 [], .int .i64 0, .int .i64 0, .str [], .sl true 4 0 [], .int .i64 0, .int .i64 0, .str [], .sl true 4 0 [], .int .i64 0, .int .i64 0, .str [], .sl true 4 0 [], .int .i64 0, .int .i64 0, .str [], .sl true 4 0 [], .int .i64 0, .int .i64 0, .str [], .sl true 4 0 [], .int .i64 0, .int .i64 0, .str [], .sl true 4 0 []] [(0, 4, (.t 17)), (4, 4, (.t 19)), (8, 4, (.t 21)), (12, 4, (.t 25)), (16, 4, (.t 27)), (20, 4, (.t 28)), (24, 4, (.t 30)), (28, 4, (.t 31))]),
 i1 33 (.call 53 [(.t 32)]),
 i1 4 (.allocL [.int .i64 0, .int .i64 0, .str [], .sl true 4 0 []]),
 i0 (.store 4 (.t 4) (.t 33))] [0, 1, 2, 3, 4])
 (.seq (.reg none [mv 34 1,
 i1 35 (.callv (.t 34) [(.c (.str [84, 121, 112, 101]))]),
 mv 36 1,
 i1 37 (.callv (.t 36) [(.c (.str [80, 97, 103, 101]))]),
 mv 38 1,
 i1 39 (.callv (.t 38) [(.c (.str [80, 97, 114, 101, 110, 116]))]),
 mv 40 2,
 i1 41 (.callv (.t 40) [(.c (.int .i64 2))]),
 i1 42 (.buildSl 4 4 [.int .i64 0, .int .i64 0, .str [], .sl true 4 0 [], .int .i64 0, .int .i64 0, .str [], .sl true 4 0 [], .int .i64 0, .int .i64 0, .str [], .sl true 4 0 [], .int .i64 0, .int .i64 0, .str [], .sl true 4 0 []] [(0, 4, (.t 35)), (4, 4, (.t 37)), (8, 4, (.t 39)), (12, 4, (.t 41))]),
 i1 43 (.call 53 [(.t 42)]),
 i1 5 (.allocL [.int .i64 0, .int .i64 0, .str [], .sl true 4 0 []]),
 i0 (.store 4 (.t 5) (.t 43))] [0, 3, 4, 5])
 (.seq (.reg none [i1 44 (.load 4 true (.t 3)),
 i1 45 (.build [.int .i64 0, .int .i64 0, .str [], .sl true 4 0 [], .bool false, .str []] [(0, 4, (.t 44))]),
 i1 46 (.load 4 true (.t 4)),
 i1 47 (.build [.int .i64 0, .int .i64 0, .str [], .sl true 4 0 [], .bool false, .str []] [(0, 4, (.t 46))]),
 i1 48 (.load 4 true (.t 5)),
 i1 49 (.build [.int .i64 0, .int .i64 0, .str [], .sl true 4 0 [], .bool false, .str []] [(0, 4, (.t 48))]),
 i1 50 (.buildSl 6 3 [.int .i64 0, .int .i64 0, .str [], .sl true 4 0 [], .bool false, .str [], .int .i64 0, .int .i64 0, .str [], .sl true 4 0 [], .bool false, .str [], .int .i64 0, .int .i64 0, .str [], .sl true 4 0 [], .bool false, .str []] [(0, 6, (.t 45)), (6, 6, (.t 47)), (12, 6, (.t 49))]),
 i1 51 (.build [.sl true 6 0 [], .int .i64 0] [(0, 1, (.t 50)), (1, 1, (.c (.int .i64 1)))]),
 i0 (.store 2 (.t 0) (.t 51))] [0])
 .ret))))))
def res_law20_small : List IRes := [⟨0, false, some (2, true)⟩]
theorem is_law20_small : fnIs Go.Proofs.Try.prog 67 52 res_law20_small ir_law20_small = true := by kernel_rfl
theorem law20_small_fn  {s : Store} {Q : List AV → Store → Prop}  : ok (law20_small ) (fun r => Q [.agg [.sl false 6 r.Objects.length (flat r.Objects), .int .i64 r.Root]] s) → FN Go.Proofs.Try.prog 67 [] s Q := by
  intro h
  refine FN.of (draw_ok mix) is_law20_small rfl (Nat.le_of_ble_eq_true rfl) ?_
  revert h
  rw [ir_law20_small, res_law20_small, law20_small]
  repeat' (first
    | with_reducible exact tt_to
    | with_reducible refine and_to ?_ ?_
    | with_reducible refine im_to ?_
    | ((fail_if_success (have _x := r1)); with_reducible refine call_to (fun _ (h : value_NameOf (Str.mk [84, 121, 112, 101]) = some _) => value_NameOf_fe h) (fun r1 => ?_))
    | ((fail_if_success (have _x := r1)); with_reducible refine call_to_q (fun _ (h : value_NameOf (Str.mk [84, 121, 112, 101]) = some _) => value_NameOf_fe h) (fun _ => rfl) (fun r1 => ?_))
    | ((fail_if_success (have _x := r1)); with_reducible refine call_to (fun _ (h : value_NameOf (Str.mk [84, 121, 112, 101]) = some _) => (by refine FE_cast ?_ (value_NameOf_fe h); simp -implicitDefEqProofs only [go_sem, start, startE, resVs, resV, resC, allV, retK, Nat.reduceBEq, Nat.reduceAdd, Nat.reduceMul, Nat.reduceLeDiff, Nat.reduceEqDiff, Nat.reduceBNe, Nat.ble_eq, UInt8.reduceToNat, fnok_51, fnok_52])) (fun r1 => ?_))
    | ((fail_if_success (have _x := r1)); with_reducible refine call_to_q (fun _ (h : value_NameOf (Str.mk [84, 121, 112, 101]) = some _) => (by refine FE_cast ?_ (value_NameOf_fe h); simp -implicitDefEqProofs only [go_sem, start, startE, resVs, resV, resC, allV, retK, Nat.reduceBEq, Nat.reduceAdd, Nat.reduceMul, Nat.reduceLeDiff, Nat.reduceEqDiff, Nat.reduceBNe, Nat.ble_eq, UInt8.reduceToNat, fnok_51, fnok_52])) (fun _ => rfl) (fun r1 => ?_))
    | with_reducible refine call_to (fun _ (h : value_NameOf (Str.mk [67, 97, 116, 97, 108, 111, 103]) = some _) => value_NameOf_fe h) (fun r2 => ?_)
    | with_reducible refine call_to_q (fun _ (h : value_NameOf (Str.mk [67, 97, 116, 97, 108, 111, 103]) = some _) => value_NameOf_fe h) (fun _ => rfl) (fun r2 => ?_)
    | with_reducible refine call_to (fun _ (h : value_NameOf (Str.mk [67, 97, 116, 97, 108, 111, 103]) = some _) => (by refine FE_cast ?_ (value_NameOf_fe h); simp -implicitDefEqProofs only [go_sem, start, startE, resVs, resV, resC, allV, retK, Nat.reduceBEq, Nat.reduceAdd, Nat.reduceMul, Nat.reduceLeDiff, Nat.reduceEqDiff, Nat.reduceBNe, Nat.ble_eq, UInt8.reduceToNat, fnok_51, fnok_52])) (fun r2 => ?_)
    | with_reducible refine call_to_q (fun _ (h : value_NameOf (Str.mk [67, 97, 116, 97, 108, 111, 103]) = some _) => (by refine FE_cast ?_ (value_NameOf_fe h); simp -implicitDefEqProofs only [go_sem, start, startE, resVs, resV, resC, allV, retK, Nat.reduceBEq, Nat.reduceAdd, Nat.reduceMul, Nat.reduceLeDiff, Nat.reduceEqDiff, Nat.reduceBNe, Nat.ble_eq, UInt8.reduceToNat, fnok_51, fnok_52])) (fun _ => rfl) (fun r2 => ?_)
    | ((fail_if_success (have _x := r3)); with_reducible refine call_to (fun _ (h : value_NameOf (Str.mk [80, 97, 103, 101, 115]) = some _) => value_NameOf_fe h) (fun r3 => ?_))
    | ((fail_if_success (have _x := r3)); with_reducible refine call_to_q (fun _ (h : value_NameOf (Str.mk [80, 97, 103, 101, 115]) = some _) => value_NameOf_fe h) (fun _ => rfl) (fun r3 => ?_))
    | ((fail_if_success (have _x := r3)); with_reducible refine call_to (fun _ (h : value_NameOf (Str.mk [80, 97, 103, 101, 115]) = some _) => (by refine FE_cast ?_ (value_NameOf_fe h); simp -implicitDefEqProofs only [go_sem, start, startE, resVs, resV, resC, allV, retK, Nat.reduceBEq, Nat.reduceAdd, Nat.reduceMul, Nat.reduceLeDiff, Nat.reduceEqDiff, Nat.reduceBNe, Nat.ble_eq, UInt8.reduceToNat, fnok_51, fnok_52])) (fun r3 => ?_))
    | ((fail_if_success (have _x := r3)); with_reducible refine call_to_q (fun _ (h : value_NameOf (Str.mk [80, 97, 103, 101, 115]) = some _) => (by refine FE_cast ?_ (value_NameOf_fe h); simp -implicitDefEqProofs only [go_sem, start, startE, resVs, resV, resC, allV, retK, Nat.reduceBEq, Nat.reduceAdd, Nat.reduceMul, Nat.reduceLeDiff, Nat.reduceEqDiff, Nat.reduceBNe, Nat.ble_eq, UInt8.reduceToNat, fnok_51, fnok_52])) (fun _ => rfl) (fun r3 => ?_))
    | ((fail_if_success (have _x := r4)); with_reducible refine call_to (fun _ (h : value_RefTo 2 = some _) => value_RefTo_fe h) (fun r4 => ?_))
    | ((fail_if_success (have _x := r4)); with_reducible refine call_to_q (fun _ (h : value_RefTo 2 = some _) => value_RefTo_fe h) (fun _ => rfl) (fun r4 => ?_))
    | ((fail_if_success (have _x := r4)); with_reducible refine call_to (fun _ (h : value_RefTo 2 = some _) => (by refine FE_cast ?_ (value_RefTo_fe h); simp -implicitDefEqProofs only [go_sem, start, startE, resVs, resV, resC, allV, retK, Nat.reduceBEq, Nat.reduceAdd, Nat.reduceMul, Nat.reduceLeDiff, Nat.reduceEqDiff, Nat.reduceBNe, Nat.ble_eq, UInt8.reduceToNat, fnok_51, fnok_52])) (fun r4 => ?_))
    | ((fail_if_success (have _x := r4)); with_reducible refine call_to_q (fun _ (h : value_RefTo 2 = some _) => (by refine FE_cast ?_ (value_RefTo_fe h); simp -implicitDefEqProofs only [go_sem, start, startE, resVs, resV, resC, allV, retK, Nat.reduceBEq, Nat.reduceAdd, Nat.reduceMul, Nat.reduceLeDiff, Nat.reduceEqDiff, Nat.reduceBNe, Nat.ble_eq, UInt8.reduceToNat, fnok_51, fnok_52])) (fun _ => rfl) (fun r4 => ?_))
    | with_reducible refine call_to (fun _ (h : value_DictOf [r1, r2, r3, r4] = some _) => value_DictOf_fe h) (fun r5 => ?_)
    | with_reducible refine call_to_q (fun _ (h : value_DictOf [r1, r2, r3, r4] = some _) => value_DictOf_fe h) (fun _ => rfl) (fun r5 => ?_)
    | with_reducible refine call_to (fun _ (h : value_DictOf [r1, r2, r3, r4] = some _) => (by refine FE_cast ?_ (value_DictOf_fe h); simp -implicitDefEqProofs only [go_sem, start, startE, resVs, resV, resC, allV, retK, Nat.reduceBEq, Nat.reduceAdd, Nat.reduceMul, Nat.reduceLeDiff, Nat.reduceEqDiff, Nat.reduceBNe, Nat.ble_eq, UInt8.reduceToNat, fnok_51, fnok_52])) (fun r5 => ?_)
    | with_reducible refine call_to_q (fun _ (h : value_DictOf [r1, r2, r3, r4] = some _) => (by refine FE_cast ?_ (value_DictOf_fe h); simp -implicitDefEqProofs only [go_sem, start, startE, resVs, resV, resC, allV, retK, Nat.reduceBEq, Nat.reduceAdd, Nat.reduceMul, Nat.reduceLeDiff, Nat.reduceEqDiff, Nat.reduceBNe, Nat.ble_eq, UInt8.reduceToNat, fnok_51, fnok_52])) (fun _ => rfl) (fun r5 => ?_)
    | ((fail_if_success (have _x := r6)); with_reducible refine call_to (fun _ (h : value_NameOf (Str.mk [84, 121, 112, 101]) = some _) => value_NameOf_fe h) (fun r6 => ?_))
    | ((fail_if_success (have _x := r6)); with_reducible refine call_to_q (fun _ (h : value_NameOf (Str.mk [84, 121, 112, 101]) = some _) => value_NameOf_fe h) (fun _ => rfl) (fun r6 => ?_))
    | ((fail_if_success (have _x := r6)); with_reducible refine call_to (fun _ (h : value_NameOf (Str.mk [84, 121, 112, 101]) = some _) => (by refine FE_cast ?_ (value_NameOf_fe h); simp -implicitDefEqProofs only [go_sem, start, startE, resVs, resV, resC, allV, retK, Nat.reduceBEq, Nat.reduceAdd, Nat.reduceMul, Nat.reduceLeDiff, Nat.reduceEqDiff, Nat.reduceBNe, Nat.ble_eq, UInt8.reduceToNat, fnok_51, fnok_52])) (fun r6 => ?_))
    | ((fail_if_success (have _x := r6)); with_reducible refine call_to_q (fun _ (h : value_NameOf (Str.mk [84, 121, 112, 101]) = some _) => (by refine FE_cast ?_ (value_NameOf_fe h); simp -implicitDefEqProofs only [go_sem, start, startE, resVs, resV, resC, allV, retK, Nat.reduceBEq, Nat.reduceAdd, Nat.reduceMul, Nat.reduceLeDiff, Nat.reduceEqDiff, Nat.reduceBNe, Nat.ble_eq, UInt8.reduceToNat, fnok_51, fnok_52])) (fun _ => rfl) (fun r6 => ?_))
    | ((fail_if_success (have _x := r7)); with_reducible refine call_to (fun _ (h : value_NameOf (Str.mk [80, 97, 103, 101, 115]) = some _) => value_NameOf_fe h) (fun r7 => ?_))
    | ((fail_if_success (have _x := r7)); with_reducible refine call_to_q (fun _ (h : value_NameOf (Str.mk [80, 97, 103, 101, 115]) = some _) => value_NameOf_fe h) (fun _ => rfl) (fun r7 => ?_))
    | ((fail_if_success (have _x := r7)); with_reducible refine call_to (fun _ (h : value_NameOf (Str.mk [80, 97, 103, 101, 115]) = some _) => (by refine FE_cast ?_ (value_NameOf_fe h); simp -implicitDefEqProofs only [go_sem, start, startE, resVs, resV, resC, allV, retK, Nat.reduceBEq, Nat.reduceAdd, Nat.reduceMul, Nat.reduceLeDiff, Nat.reduceEqDiff, Nat.reduceBNe, Nat.ble_eq, UInt8.reduceToNat, fnok_51, fnok_52])) (fun r7 => ?_))
    | ((fail_if_success (have _x := r7)); with_reducible refine call_to_q (fun _ (h : value_NameOf (Str.mk [80, 97, 103, 101, 115]) = some _) => (by refine FE_cast ?_ (value_NameOf_fe h); simp -implicitDefEqProofs only [go_sem, start, startE, resVs, resV, resC, allV, retK, Nat.reduceBEq, Nat.reduceAdd, Nat.reduceMul, Nat.reduceLeDiff, Nat.reduceEqDiff, Nat.reduceBNe, Nat.ble_eq, UInt8.reduceToNat, fnok_51, fnok_52])) (fun _ => rfl) (fun r7 => ?_))
    | with_reducible refine call_to (fun _ (h : value_NameOf (Str.mk [75, 105, 100, 115]) = some _) => value_NameOf_fe h) (fun r8 => ?_)
    | with_reducible refine call_to_q (fun _ (h : value_NameOf (Str.mk [75, 105, 100, 115]) = some _) => value_NameOf_fe h) (fun _ => rfl) (fun r8 => ?_)
    | with_reducible refine call_to (fun _ (h : value_NameOf (Str.mk [75, 105, 100, 115]) = some _) => (by refine FE_cast ?_ (value_NameOf_fe h); simp -implicitDefEqProofs only [go_sem, start, startE, resVs, resV, resC, allV, retK, Nat.reduceBEq, Nat.reduceAdd, Nat.reduceMul, Nat.reduceLeDiff, Nat.reduceEqDiff, Nat.reduceBNe, Nat.ble_eq, UInt8.reduceToNat, fnok_51, fnok_52])) (fun r8 => ?_)
    | with_reducible refine call_to_q (fun _ (h : value_NameOf (Str.mk [75, 105, 100, 115]) = some _) => (by refine FE_cast ?_ (value_NameOf_fe h); simp -implicitDefEqProofs only [go_sem, start, startE, resVs, resV, resC, allV, retK, Nat.reduceBEq, Nat.reduceAdd, Nat.reduceMul, Nat.reduceLeDiff, Nat.reduceEqDiff, Nat.reduceBNe, Nat.ble_eq, UInt8.reduceToNat, fnok_51, fnok_52])) (fun _ => rfl) (fun r8 => ?_)
    | with_reducible refine call_to (fun _ (h : value_RefTo 3 = some _) => value_RefTo_fe h) (fun r9 => ?_)
    | with_reducible refine call_to_q (fun _ (h : value_RefTo 3 = some _) => value_RefTo_fe h) (fun _ => rfl) (fun r9 => ?_)
    | with_reducible refine call_to (fun _ (h : value_RefTo 3 = some _) => (by refine FE_cast ?_ (value_RefTo_fe h); simp -implicitDefEqProofs only [go_sem, start, startE, resVs, resV, resC, allV, retK, Nat.reduceBEq, Nat.reduceAdd, Nat.reduceMul, Nat.reduceLeDiff, Nat.reduceEqDiff, Nat.reduceBNe, Nat.ble_eq, UInt8.reduceToNat, fnok_51, fnok_52])) (fun r9 => ?_)
    | with_reducible refine call_to_q (fun _ (h : value_RefTo 3 = some _) => (by refine FE_cast ?_ (value_RefTo_fe h); simp -implicitDefEqProofs only [go_sem, start, startE, resVs, resV, resC, allV, retK, Nat.reduceBEq, Nat.reduceAdd, Nat.reduceMul, Nat.reduceLeDiff, Nat.reduceEqDiff, Nat.reduceBNe, Nat.ble_eq, UInt8.reduceToNat, fnok_51, fnok_52])) (fun _ => rfl) (fun r9 => ?_)
    | with_reducible refine call_to (fun _ (h : value_NameOf (Str.mk [67, 111, 117, 110, 116]) = some _) => value_NameOf_fe h) (fun r10 => ?_)
    | with_reducible refine call_to_q (fun _ (h : value_NameOf (Str.mk [67, 111, 117, 110, 116]) = some _) => value_NameOf_fe h) (fun _ => rfl) (fun r10 => ?_)
    | with_reducible refine call_to (fun _ (h : value_NameOf (Str.mk [67, 111, 117, 110, 116]) = some _) => (by refine FE_cast ?_ (value_NameOf_fe h); simp -implicitDefEqProofs only [go_sem, start, startE, resVs, resV, resC, allV, retK, Nat.reduceBEq, Nat.reduceAdd, Nat.reduceMul, Nat.reduceLeDiff, Nat.reduceEqDiff, Nat.reduceBNe, Nat.ble_eq, UInt8.reduceToNat, fnok_51, fnok_52])) (fun r10 => ?_)
    | with_reducible refine call_to_q (fun _ (h : value_NameOf (Str.mk [67, 111, 117, 110, 116]) = some _) => (by refine FE_cast ?_ (value_NameOf_fe h); simp -implicitDefEqProofs only [go_sem, start, startE, resVs, resV, resC, allV, retK, Nat.reduceBEq, Nat.reduceAdd, Nat.reduceMul, Nat.reduceLeDiff, Nat.reduceEqDiff, Nat.reduceBNe, Nat.ble_eq, UInt8.reduceToNat, fnok_51, fnok_52])) (fun _ => rfl) (fun r10 => ?_)
    | with_reducible refine call_to (fun _ (h : value_IntOf 1 = some _) => value_IntOf_fe h) (fun r11 => ?_)
    | with_reducible refine call_to_q (fun _ (h : value_IntOf 1 = some _) => value_IntOf_fe h) (fun _ => rfl) (fun r11 => ?_)
    | with_reducible refine call_to (fun _ (h : value_IntOf 1 = some _) => (by refine FE_cast ?_ (value_IntOf_fe h); simp -implicitDefEqProofs only [go_sem, start, startE, resVs, resV, resC, allV, retK, Nat.reduceBEq, Nat.reduceAdd, Nat.reduceMul, Nat.reduceLeDiff, Nat.reduceEqDiff, Nat.reduceBNe, Nat.ble_eq, UInt8.reduceToNat, fnok_51, fnok_52])) (fun r11 => ?_)
    | with_reducible refine call_to_q (fun _ (h : value_IntOf 1 = some _) => (by refine FE_cast ?_ (value_IntOf_fe h); simp -implicitDefEqProofs only [go_sem, start, startE, resVs, resV, resC, allV, retK, Nat.reduceBEq, Nat.reduceAdd, Nat.reduceMul, Nat.reduceLeDiff, Nat.reduceEqDiff, Nat.reduceBNe, Nat.ble_eq, UInt8.reduceToNat, fnok_51, fnok_52])) (fun _ => rfl) (fun r11 => ?_)
    | with_reducible refine call_to (fun _ (h : value_NameOf (Str.mk [82, 111, 116, 97, 116, 101]) = some _) => value_NameOf_fe h) (fun r12 => ?_)
    | with_reducible refine call_to_q (fun _ (h : value_NameOf (Str.mk [82, 111, 116, 97, 116, 101]) = some _) => value_NameOf_fe h) (fun _ => rfl) (fun r12 => ?_)
    | with_reducible refine call_to (fun _ (h : value_NameOf (Str.mk [82, 111, 116, 97, 116, 101]) = some _) => (by refine FE_cast ?_ (value_NameOf_fe h); simp -implicitDefEqProofs only [go_sem, start, startE, resVs, resV, resC, allV, retK, Nat.reduceBEq, Nat.reduceAdd, Nat.reduceMul, Nat.reduceLeDiff, Nat.reduceEqDiff, Nat.reduceBNe, Nat.ble_eq, UInt8.reduceToNat, fnok_51, fnok_52])) (fun r12 => ?_)
    | with_reducible refine call_to_q (fun _ (h : value_NameOf (Str.mk [82, 111, 116, 97, 116, 101]) = some _) => (by refine FE_cast ?_ (value_NameOf_fe h); simp -implicitDefEqProofs only [go_sem, start, startE, resVs, resV, resC, allV, retK, Nat.reduceBEq, Nat.reduceAdd, Nat.reduceMul, Nat.reduceLeDiff, Nat.reduceEqDiff, Nat.reduceBNe, Nat.ble_eq, UInt8.reduceToNat, fnok_51, fnok_52])) (fun _ => rfl) (fun r12 => ?_)
    | with_reducible refine call_to (fun _ (h : value_IntOf 90 = some _) => value_IntOf_fe h) (fun r13 => ?_)
    | with_reducible refine call_to_q (fun _ (h : value_IntOf 90 = some _) => value_IntOf_fe h) (fun _ => rfl) (fun r13 => ?_)
    | with_reducible refine call_to (fun _ (h : value_IntOf 90 = some _) => (by refine FE_cast ?_ (value_IntOf_fe h); simp -implicitDefEqProofs only [go_sem, start, startE, resVs, resV, resC, allV, retK, Nat.reduceBEq, Nat.reduceAdd, Nat.reduceMul, Nat.reduceLeDiff, Nat.reduceEqDiff, Nat.reduceBNe, Nat.ble_eq, UInt8.reduceToNat, fnok_51, fnok_52])) (fun r13 => ?_)
    | with_reducible refine call_to_q (fun _ (h : value_IntOf 90 = some _) => (by refine FE_cast ?_ (value_IntOf_fe h); simp -implicitDefEqProofs only [go_sem, start, startE, resVs, resV, resC, allV, retK, Nat.reduceBEq, Nat.reduceAdd, Nat.reduceMul, Nat.reduceLeDiff, Nat.reduceEqDiff, Nat.reduceBNe, Nat.ble_eq, UInt8.reduceToNat, fnok_51, fnok_52])) (fun _ => rfl) (fun r13 => ?_)
    | with_reducible refine call_to (fun _ (h : value_DictOf [r6, r7, r8, (api_Value.mk 6 0 (Str.mk []) [r9]), r10, r11, r12, r13] = some _) => value_DictOf_fe h) (fun r14 => ?_)
    | with_reducible refine call_to_q (fun _ (h : value_DictOf [r6, r7, r8, (api_Value.mk 6 0 (Str.mk []) [r9]), r10, r11, r12, r13] = some _) => value_DictOf_fe h) (fun _ => rfl) (fun r14 => ?_)
    | with_reducible refine call_to (fun _ (h : value_DictOf [r6, r7, r8, (api_Value.mk 6 0 (Str.mk []) [r9]), r10, r11, r12, r13] = some _) => (by refine FE_cast ?_ (value_DictOf_fe h); simp -implicitDefEqProofs only [go_sem, start, startE, resVs, resV, resC, allV, retK, Nat.reduceBEq, Nat.reduceAdd, Nat.reduceMul, Nat.reduceLeDiff, Nat.reduceEqDiff, Nat.reduceBNe, Nat.ble_eq, UInt8.reduceToNat, fnok_51, fnok_52])) (fun r14 => ?_)
    | with_reducible refine call_to_q (fun _ (h : value_DictOf [r6, r7, r8, (api_Value.mk 6 0 (Str.mk []) [r9]), r10, r11, r12, r13] = some _) => (by refine FE_cast ?_ (value_DictOf_fe h); simp -implicitDefEqProofs only [go_sem, start, startE, resVs, resV, resC, allV, retK, Nat.reduceBEq, Nat.reduceAdd, Nat.reduceMul, Nat.reduceLeDiff, Nat.reduceEqDiff, Nat.reduceBNe, Nat.ble_eq, UInt8.reduceToNat, fnok_51, fnok_52])) (fun _ => rfl) (fun r14 => ?_)
    | ((fail_if_success (have _x := r15)); with_reducible refine call_to (fun _ (h : value_NameOf (Str.mk [84, 121, 112, 101]) = some _) => value_NameOf_fe h) (fun r15 => ?_))
    | ((fail_if_success (have _x := r15)); with_reducible refine call_to_q (fun _ (h : value_NameOf (Str.mk [84, 121, 112, 101]) = some _) => value_NameOf_fe h) (fun _ => rfl) (fun r15 => ?_))
    | ((fail_if_success (have _x := r15)); with_reducible refine call_to (fun _ (h : value_NameOf (Str.mk [84, 121, 112, 101]) = some _) => (by refine FE_cast ?_ (value_NameOf_fe h); simp -implicitDefEqProofs only [go_sem, start, startE, resVs, resV, resC, allV, retK, Nat.reduceBEq, Nat.reduceAdd, Nat.reduceMul, Nat.reduceLeDiff, Nat.reduceEqDiff, Nat.reduceBNe, Nat.ble_eq, UInt8.reduceToNat, fnok_51, fnok_52])) (fun r15 => ?_))
    | ((fail_if_success (have _x := r15)); with_reducible refine call_to_q (fun _ (h : value_NameOf (Str.mk [84, 121, 112, 101]) = some _) => (by refine FE_cast ?_ (value_NameOf_fe h); simp -implicitDefEqProofs only [go_sem, start, startE, resVs, resV, resC, allV, retK, Nat.reduceBEq, Nat.reduceAdd, Nat.reduceMul, Nat.reduceLeDiff, Nat.reduceEqDiff, Nat.reduceBNe, Nat.ble_eq, UInt8.reduceToNat, fnok_51, fnok_52])) (fun _ => rfl) (fun r15 => ?_))
    | with_reducible refine call_to (fun _ (h : value_NameOf (Str.mk [80, 97, 103, 101]) = some _) => value_NameOf_fe h) (fun r16 => ?_)
    | with_reducible refine call_to_q (fun _ (h : value_NameOf (Str.mk [80, 97, 103, 101]) = some _) => value_NameOf_fe h) (fun _ => rfl) (fun r16 => ?_)
    | with_reducible refine call_to (fun _ (h : value_NameOf (Str.mk [80, 97, 103, 101]) = some _) => (by refine FE_cast ?_ (value_NameOf_fe h); simp -implicitDefEqProofs only [go_sem, start, startE, resVs, resV, resC, allV, retK, Nat.reduceBEq, Nat.reduceAdd, Nat.reduceMul, Nat.reduceLeDiff, Nat.reduceEqDiff, Nat.reduceBNe, Nat.ble_eq, UInt8.reduceToNat, fnok_51, fnok_52])) (fun r16 => ?_)
    | with_reducible refine call_to_q (fun _ (h : value_NameOf (Str.mk [80, 97, 103, 101]) = some _) => (by refine FE_cast ?_ (value_NameOf_fe h); simp -implicitDefEqProofs only [go_sem, start, startE, resVs, resV, resC, allV, retK, Nat.reduceBEq, Nat.reduceAdd, Nat.reduceMul, Nat.reduceLeDiff, Nat.reduceEqDiff, Nat.reduceBNe, Nat.ble_eq, UInt8.reduceToNat, fnok_51, fnok_52])) (fun _ => rfl) (fun r16 => ?_)
    | with_reducible refine call_to (fun _ (h : value_NameOf (Str.mk [80, 97, 114, 101, 110, 116]) = some _) => value_NameOf_fe h) (fun r17 => ?_)
    | with_reducible refine call_to_q (fun _ (h : value_NameOf (Str.mk [80, 97, 114, 101, 110, 116]) = some _) => value_NameOf_fe h) (fun _ => rfl) (fun r17 => ?_)
    | with_reducible refine call_to (fun _ (h : value_NameOf (Str.mk [80, 97, 114, 101, 110, 116]) = some _) => (by refine FE_cast ?_ (value_NameOf_fe h); simp -implicitDefEqProofs only [go_sem, start, startE, resVs, resV, resC, allV, retK, Nat.reduceBEq, Nat.reduceAdd, Nat.reduceMul, Nat.reduceLeDiff, Nat.reduceEqDiff, Nat.reduceBNe, Nat.ble_eq, UInt8.reduceToNat, fnok_51, fnok_52])) (fun r17 => ?_)
    | with_reducible refine call_to_q (fun _ (h : value_NameOf (Str.mk [80, 97, 114, 101, 110, 116]) = some _) => (by refine FE_cast ?_ (value_NameOf_fe h); simp -implicitDefEqProofs only [go_sem, start, startE, resVs, resV, resC, allV, retK, Nat.reduceBEq, Nat.reduceAdd, Nat.reduceMul, Nat.reduceLeDiff, Nat.reduceEqDiff, Nat.reduceBNe, Nat.ble_eq, UInt8.reduceToNat, fnok_51, fnok_52])) (fun _ => rfl) (fun r17 => ?_)
    | ((fail_if_success (have _x := r18)); with_reducible refine call_to (fun _ (h : value_RefTo 2 = some _) => value_RefTo_fe h) (fun r18 => ?_))
    | ((fail_if_success (have _x := r18)); with_reducible refine call_to_q (fun _ (h : value_RefTo 2 = some _) => value_RefTo_fe h) (fun _ => rfl) (fun r18 => ?_))
    | ((fail_if_success (have _x := r18)); with_reducible refine call_to (fun _ (h : value_RefTo 2 = some _) => (by refine FE_cast ?_ (value_RefTo_fe h); simp -implicitDefEqProofs only [go_sem, start, startE, resVs, resV, resC, allV, retK, Nat.reduceBEq, Nat.reduceAdd, Nat.reduceMul, Nat.reduceLeDiff, Nat.reduceEqDiff, Nat.reduceBNe, Nat.ble_eq, UInt8.reduceToNat, fnok_51, fnok_52])) (fun r18 => ?_))
    | ((fail_if_success (have _x := r18)); with_reducible refine call_to_q (fun _ (h : value_RefTo 2 = some _) => (by refine FE_cast ?_ (value_RefTo_fe h); simp -implicitDefEqProofs only [go_sem, start, startE, resVs, resV, resC, allV, retK, Nat.reduceBEq, Nat.reduceAdd, Nat.reduceMul, Nat.reduceLeDiff, Nat.reduceEqDiff, Nat.reduceBNe, Nat.ble_eq, UInt8.reduceToNat, fnok_51, fnok_52])) (fun _ => rfl) (fun r18 => ?_))
    | with_reducible refine call_to (fun _ (h : value_DictOf [r15, r16, r17, r18] = some _) => value_DictOf_fe h) (fun r19 => ?_)
    | with_reducible refine call_to_q (fun _ (h : value_DictOf [r15, r16, r17, r18] = some _) => value_DictOf_fe h) (fun _ => rfl) (fun r19 => ?_)
    | with_reducible refine call_to (fun _ (h : value_DictOf [r15, r16, r17, r18] = some _) => (by refine FE_cast ?_ (value_DictOf_fe h); simp -implicitDefEqProofs only [go_sem, start, startE, resVs, resV, resC, allV, retK, Nat.reduceBEq, Nat.reduceAdd, Nat.reduceMul, Nat.reduceLeDiff, Nat.reduceEqDiff, Nat.reduceBNe, Nat.ble_eq, UInt8.reduceToNat, fnok_51, fnok_52])) (fun r19 => ?_)
    | with_reducible refine call_to_q (fun _ (h : value_DictOf [r15, r16, r17, r18] = some _) => (by refine FE_cast ?_ (value_DictOf_fe h); simp -implicitDefEqProofs only [go_sem, start, startE, resVs, resV, resC, allV, retK, Nat.reduceBEq, Nat.reduceAdd, Nat.reduceMul, Nat.reduceLeDiff, Nat.reduceEqDiff, Nat.reduceBNe, Nat.ble_eq, UInt8.reduceToNat, fnok_51, fnok_52])) (fun _ => rfl) (fun r19 => ?_)
    | simp -implicitDefEqProofs only [go_sem, start, startE, resVs, resV, resC, allV, retK, Nat.reduceBEq, Nat.reduceAdd, Nat.reduceMul, Nat.reduceLeDiff, Nat.reduceEqDiff, Nat.reduceBNe, Nat.ble_eq, UInt8.reduceToNat, fnok_51, fnok_52])
theorem law20_small_fe  {s : Store} {r : api_Doc}  (h : law20_small  = some r) : FE Go.Proofs.Try.prog 67 [] s [.agg [.sl false 6 r.Objects.length (flat r.Objects), .int .i64 r.Root]] s := law20_small_fn   ⟨r, h, rfl, rfl⟩
/-- catchword/file.Of$1 -/
def file_Of_1 (n_0 : Int) (c_1 : api_Doc) : Option (api_Object × Int × Int) :=
  if (decide (n_0 < 1)) || (decide (n_0 > (c_1.Objects.length : Int))) then
    some ((api_Object.mk (api_Value.mk 0 0 (Str.mk []) ([] : List api_Value)) false (Str.mk [])), 0, 0)
  else
    need (0 ≤ w64 (n_0 - 1) ∧ w64 (n_0 - 1) < c_1.Objects.length) <|
    some (ix c_1.Objects (w64 (n_0 - 1)), 0, 0)
def ir_file_Of_1 : IC :=
 (.seq (.reg none [i1 3 (.allocL [.int .i64 0, .int .i64 0, .str [], .sl true 4 0 [], .bool false, .str []]),
 i1 4 (.mov false (.c (.int .i64 0))),
 i1 5 (.mov false (.c (.int .i64 0)))] [0, 1, 3])
 (.seq (.seq (.reg none [mv 6 0,
 i1 7 (.bin .lss (.t 6) (.c (.int .i64 1))),
 mv 8 7,
 mvg 9 0 8 false,
 i1g 10 8 false (.fieldAddr 0 (.t 1)),
 i1g 11 8 false (.loadR [.sl false 6 0 []] false (.t 10)),
 i1g 12 8 false (.len 0 (.t 11)),
 i1g 13 8 false (.bin .gtr (.t 9) (.t 12)),
 i1 14 (.pick (.t 8) (.c (.bool true)) (.t 13))] [0, 1, 3, 14])
 (.cond (.t 14) (.seq (.reg none [i1 15 (.build [.int .i64 0, .int .i64 0, .str [], .sl true 4 0 [], .bool false, .str []] []),
 i0 (.store 6 (.t 3) (.t 15)),
 i1 4 (.mov false (.c (.int .i64 0))),
 i1 5 (.mov false (.c (.int .i64 0)))] [3, 4, 5])
 .ret)
 .skip))
 (.seq (.reg none [i1 16 (.fieldAddr 0 (.t 1)),
 i1 17 (.loadR [.sl false 6 0 []] false (.t 16)),
 mv 18 0,
 i1 19 (.bin .sub (.t 18) (.c (.int .i64 1))),
 i1 20 (.indexAddr [.int .i64 0, .int .i64 0, .str [], .sl false 4 0 [], .bool false, .str []] (.t 17) (.t 19)),
 i1 21 (.load 6 true (.t 20)),
 i0 (.store 6 (.t 3) (.t 21)),
 i1 4 (.mov false (.c (.int .i64 0))),
 i1 5 (.mov false (.c (.int .i64 0)))] [3, 4, 5])
 .ret)))
def res_file_Of_1 : List IRes := [⟨3, false, some (6, true)⟩, ⟨4, true, none⟩, ⟨5, true, none⟩]
theorem is_file_Of_1 : fnIs Go.Proofs.Try.prog 61 22 res_file_Of_1 ir_file_Of_1 = true := by kernel_rfl
theorem file_Of_1_fn {n_0 c_1} {B1 : Nat} {s : Store} {Q : List AV → Store → Prop} (hB1 : s B1 = some (.cells [.sl false 6 c_1.Objects.length (flat c_1.Objects), .int .i64 c_1.Root])) : ok (file_Of_1 n_0 c_1) (fun r => Q [.agg [.int .i64 r.1.V.Kind, .int .i64 r.1.V.N, .str r.1.V.S.b, .sl false 4 r.1.V.L.length (flat r.1.V.L), .bool r.1.Stream, .str r.1.Data.b], .int .i64 r.2.1, .int .i64 r.2.2] s) → FN Go.Proofs.Try.prog 61 [.int .i64 n_0, .ref B1 0] s Q := by
  have hS : s = (s.set B1 (.cells [.sl false 6 c_1.Objects.length (flat c_1.Objects), .int .i64 c_1.Root])) := by simp only [set_eq' hB1]
  rw [hS]
  intro h
  refine FN.of (draw_ok mix) is_file_Of_1 rfl (Nat.le_of_ble_eq_true rfl) ?_
  revert h
  rw [ir_file_Of_1, res_file_Of_1, file_Of_1]
  repeat' (first
    | with_reducible exact tt_to
    | with_reducible refine and_to ?_ ?_
    | with_reducible refine im_to ?_
    | simp -implicitDefEqProofs only [go_sem, start, startE, resVs, resV, resC, allV, retK, Nat.reduceBEq, Nat.reduceAdd, Nat.reduceMul, Nat.reduceLeDiff, Nat.reduceEqDiff, Nat.reduceBNe, Nat.ble_eq, UInt8.reduceToNat])
theorem file_Of_1_fe {n_0 c_1} {B1 : Nat} {s : Store} {r : api_Object × Int × Int} (hB1 : s B1 = some (.cells [.sl false 6 c_1.Objects.length (flat c_1.Objects), .int .i64 c_1.Root])) (h : file_Of_1 n_0 c_1 = some r) : FE Go.Proofs.Try.prog 61 [.int .i64 n_0, .ref B1 0] s [.agg [.int .i64 r.1.V.Kind, .int .i64 r.1.V.N, .str r.1.V.S.b, .sl false 4 r.1.V.L.length (flat r.1.V.L), .bool r.1.Stream, .str r.1.Data.b], .int .i64 r.2.1, .int .i64 r.2.2] s := file_Of_1_fn hB1  ⟨r, h, rfl, rfl⟩
structure file_File where
  root_ : Int
  count_ : Int
  get_ : api_Doc
/-- (*catchword/file.File).is -/
def file_File_is (f_0 : file_File) : Option (Bool) :=
  some (true || false)
def ir_file_File_is : IC :=
 (.seq (.reg none [i1 2 (.mov false (.c (.bool false)))] [0])
 (.seq (.reg none [mv 3 0,
 i1 4 (.eqP true (.t 3) (.c (.nilp))),
 mv 5 4,
 mvg 6 0 5 true,
 i1g 7 5 true (.nilCheck (.t 6)),
 i1g 8 5 true (.fieldAddr 2 (.t 7)),
 i1g 9 5 true (.loadR [.nilf] false (.t 8)),
 i1g 10 5 true (.eqF true (.t 9)),
 i1 11 (.pick (.t 5) (.t 10) (.c (.bool false))),
 mv 2 11] [2])
 .ret))
def res_file_File_is : List IRes := [⟨2, true, none⟩]
theorem is_file_File_is : fnIs Go.Proofs.Try.prog 77 12 res_file_File_is ir_file_File_is = true := by kernel_rfl
theorem file_File_is_fn {f_0} {B0 B0_get_ : Nat} {s : Store} {Q : List AV → Store → Prop} (hB0 : s B0 = some (.cells [.int .i64 f_0.root_, .int .i64 f_0.count_, .fn 61 [] [.ref B0_get_ 0]])) (hB0_get_ : s B0_get_ = some (.cells [.sl false 6 f_0.get_.Objects.length (flat f_0.get_.Objects), .int .i64 f_0.get_.Root])) (nB0B0_get_ : B0 ≠ B0_get_) : ok (file_File_is f_0) (fun r => Q [.bool r] s) → FN Go.Proofs.Try.prog 77 [.ref B0 0] s Q := by
  have hS : s = ((s.set B0 (.cells [.int .i64 f_0.root_, .int .i64 f_0.count_, .fn 61 [] [.ref B0_get_ 0]])).set B0_get_ (.cells [.sl false 6 f_0.get_.Objects.length (flat f_0.get_.Objects), .int .i64 f_0.get_.Root])) := by simp only [set_eq' hB0, set_eq' hB0_get_]
  rw [hS]
  intro h
  refine FN.of (draw_ok mix) is_file_File_is rfl (Nat.le_of_ble_eq_true rfl) ?_
  revert h
  rw [ir_file_File_is, res_file_File_is, file_File_is]
  repeat' (first
    | with_reducible exact tt_to
    | with_reducible refine and_to ?_ ?_
    | with_reducible refine im_to ?_
    | simp -implicitDefEqProofs only [go_sem, start, startE, resVs, resV, resC, allV, retK, Nat.reduceBEq, Nat.reduceAdd, Nat.reduceMul, Nat.reduceLeDiff, Nat.reduceEqDiff, Nat.reduceBNe, Nat.ble_eq, UInt8.reduceToNat, set_ne nB0B0_get_, set_ne nB0B0_get_.symm, set_comm nB0B0_get_])
theorem file_File_is_fe {f_0} {B0 B0_get_ : Nat} {s : Store} {r : Bool} (hB0 : s B0 = some (.cells [.int .i64 f_0.root_, .int .i64 f_0.count_, .fn 61 [] [.ref B0_get_ 0]])) (hB0_get_ : s B0_get_ = some (.cells [.sl false 6 f_0.get_.Objects.length (flat f_0.get_.Objects), .int .i64 f_0.get_.Root])) (nB0B0_get_ : B0 ≠ B0_get_) (h : file_File_is f_0 = some r) : FE Go.Proofs.Try.prog 77 [.ref B0 0] s [.bool r] s := file_File_is_fn hB0 hB0_get_ nB0B0_get_ ⟨r, h, rfl, rfl⟩
/-- (*catchword/file.File).Root -/
def file_File_Root (f_0 : file_File) : Option (Int) :=
  bnd (file_File_is f_0) fun r1 =>
  if !r1 then
    some 0
  else
    some f_0.root_
def ir_file_File_Root : IC :=
 (.seq (.reg none [i1 2 (.mov false (.c (.int .i64 0)))] [0])
 (.seq (.seq (.reg none [mv 3 0,
 i1 4 (.call 77 [(.t 3)]),
 i1 5 (.un .not (.t 4))] [0, 5])
 (.cond (.t 5) (.seq (.reg none [i1 2 (.mov false (.c (.int .i64 0)))] [2])
 .ret)
 .skip))
 (.seq (.reg none [mv 6 0,
 i1 7 (.nilCheck (.t 6)),
 i1 8 (.fieldAddr 0 (.t 7)),
 i1 9 (.loadR [.int .i64 0] false (.t 8)),
 mv 2 9] [2])
 .ret)))
def res_file_File_Root : List IRes := [⟨2, true, none⟩]
theorem is_file_File_Root : fnIs Go.Proofs.Try.prog 79 10 res_file_File_Root ir_file_File_Root = true := by kernel_rfl
theorem file_File_Root_fn {f_0} {B0 B0_get_ : Nat} {s : Store} {Q : List AV → Store → Prop} (hB0 : s B0 = some (.cells [.int .i64 f_0.root_, .int .i64 f_0.count_, .fn 61 [] [.ref B0_get_ 0]])) (hB0_get_ : s B0_get_ = some (.cells [.sl false 6 f_0.get_.Objects.length (flat f_0.get_.Objects), .int .i64 f_0.get_.Root])) (nB0B0_get_ : B0 ≠ B0_get_) : ok (file_File_Root f_0) (fun r => Q [.int .i64 r] s) → FN Go.Proofs.Try.prog 79 [.ref B0 0] s Q := by
  have hS : s = ((s.set B0 (.cells [.int .i64 f_0.root_, .int .i64 f_0.count_, .fn 61 [] [.ref B0_get_ 0]])).set B0_get_ (.cells [.sl false 6 f_0.get_.Objects.length (flat f_0.get_.Objects), .int .i64 f_0.get_.Root])) := by simp only [set_eq' hB0, set_eq' hB0_get_]
  rw [hS]
  intro h
  refine FN.of (draw_ok mix) is_file_File_Root rfl (Nat.le_of_ble_eq_true rfl) ?_
  revert h
  rw [ir_file_File_Root, res_file_File_Root, file_File_Root]
  repeat' (first
    | with_reducible exact tt_to
    | with_reducible refine and_to ?_ ?_
    | with_reducible refine im_to ?_
    | with_reducible refine call_to (fun _ (h : file_File_is f_0 = some _) => file_File_is_fe (B0 := B0) (B0_get_ := B0_get_) (by simp -implicitDefEqProofs only [go_sem, start, startE, resVs, resV, resC, allV, retK, Nat.reduceBEq, Nat.reduceAdd, Nat.reduceMul, Nat.reduceLeDiff, Nat.reduceEqDiff, Nat.reduceBNe, Nat.ble_eq, UInt8.reduceToNat, set_ne nB0B0_get_, set_ne nB0B0_get_.symm, set_comm nB0B0_get_]) (by simp -implicitDefEqProofs only [go_sem, start, startE, resVs, resV, resC, allV, retK, Nat.reduceBEq, Nat.reduceAdd, Nat.reduceMul, Nat.reduceLeDiff, Nat.reduceEqDiff, Nat.reduceBNe, Nat.ble_eq, UInt8.reduceToNat, set_ne nB0B0_get_, set_ne nB0B0_get_.symm, set_comm nB0B0_get_]) nB0B0_get_ h) (fun r1 => ?_)
    | with_reducible refine call_to_q (fun _ (h : file_File_is f_0 = some _) => file_File_is_fe (B0 := B0) (B0_get_ := B0_get_) (by simp -implicitDefEqProofs only [go_sem, start, startE, resVs, resV, resC, allV, retK, Nat.reduceBEq, Nat.reduceAdd, Nat.reduceMul, Nat.reduceLeDiff, Nat.reduceEqDiff, Nat.reduceBNe, Nat.ble_eq, UInt8.reduceToNat, set_ne nB0B0_get_, set_ne nB0B0_get_.symm, set_comm nB0B0_get_]) (by simp -implicitDefEqProofs only [go_sem, start, startE, resVs, resV, resC, allV, retK, Nat.reduceBEq, Nat.reduceAdd, Nat.reduceMul, Nat.reduceLeDiff, Nat.reduceEqDiff, Nat.reduceBNe, Nat.ble_eq, UInt8.reduceToNat, set_ne nB0B0_get_, set_ne nB0B0_get_.symm, set_comm nB0B0_get_]) nB0B0_get_ h) (fun _ => rfl) (fun r1 => ?_)
    | simp -implicitDefEqProofs only [go_sem, start, startE, resVs, resV, resC, allV, retK, Nat.reduceBEq, Nat.reduceAdd, Nat.reduceMul, Nat.reduceLeDiff, Nat.reduceEqDiff, Nat.reduceBNe, Nat.ble_eq, UInt8.reduceToNat, set_ne nB0B0_get_, set_ne nB0B0_get_.symm, set_comm nB0B0_get_])
theorem file_File_Root_fe {f_0} {B0 B0_get_ : Nat} {s : Store} {r : Int} (hB0 : s B0 = some (.cells [.int .i64 f_0.root_, .int .i64 f_0.count_, .fn 61 [] [.ref B0_get_ 0]])) (hB0_get_ : s B0_get_ = some (.cells [.sl false 6 f_0.get_.Objects.length (flat f_0.get_.Objects), .int .i64 f_0.get_.Root])) (nB0B0_get_ : B0 ≠ B0_get_) (h : file_File_Root f_0 = some r) : FE Go.Proofs.Try.prog 79 [.ref B0 0] s [.int .i64 r] s := file_File_Root_fn hB0 hB0_get_ nB0B0_get_ ⟨r, h, rfl, rfl⟩
/-- (*catchword/file.File).Get -/
def file_File_Get (f_0 : file_File) (n_1 : Int) : Option (api_Object × Int × Int) :=
  bnd (file_File_is f_0) fun r1 =>
  if !r1 then
    some ((api_Object.mk (api_Value.mk 0 0 (Str.mk []) ([] : List api_Value)) false (Str.mk [])), 0, 1)
  else
    bnd (file_Of_1 n_1 f_0.get_) fun r2 =>
    some (r2.1, r2.2.1, r2.2.2)
theorem fnok_61 : (fnOK Go.Proofs.Try.prog 61 = true) = True := eq_true (by kernel_rfl)
def ir_file_File_Get : IC :=
 (.seq (.reg none [i1 4 (.allocL [.int .i64 0, .int .i64 0, .str [], .sl true 4 0 [], .bool false, .str []]),
 i1 5 (.mov false (.c (.int .i64 0))),
 i1 6 (.mov false (.c (.int .i64 0)))] [0, 1, 4])
 (.seq (.seq (.reg none [mv 7 0,
 i1 8 (.call 77 [(.t 7)]),
 i1 9 (.un .not (.t 8))] [0, 1, 4, 9])
 (.cond (.t 9) (.seq (.reg none [i1 10 (.build [.int .i64 0, .int .i64 0, .str [], .sl true 4 0 [], .bool false, .str []] []),
 i0 (.store 6 (.t 4) (.t 10)),
 i1 5 (.mov false (.c (.int .i64 0))),
 i1 6 (.mov false (.c (.int .i64 1)))] [4, 5, 6])
 .ret)
 .skip))
 (.seq (.reg none [mv 11 0,
 i1 12 (.nilCheck (.t 11)),
 i1 13 (.fieldAddr 2 (.t 12)),
 i1 14 (.loadR [.nilf] false (.t 13)),
 mv 15 1,
 i1 16 (.callv (.t 14) [(.t 15)]),
 i1 17 (.extract (.t 16) 0),
 i1 18 (.extract (.t 16) 1),
 i1 19 (.extract (.t 16) 2),
 i0 (.store 6 (.t 4) (.t 17)),
 mv 5 18,
 mv 6 19] [4, 5, 6])
 .ret)))
def res_file_File_Get : List IRes := [⟨4, false, some (6, true)⟩, ⟨5, true, none⟩, ⟨6, true, none⟩]
theorem is_file_File_Get : fnIs Go.Proofs.Try.prog 34 20 res_file_File_Get ir_file_File_Get = true := by kernel_rfl
theorem file_File_Get_fn {f_0 n_1} {B0 B0_get_ : Nat} {s : Store} {Q : List AV → Store → Prop} (hB0 : s B0 = some (.cells [.int .i64 f_0.root_, .int .i64 f_0.count_, .fn 61 [] [.ref B0_get_ 0]])) (hB0_get_ : s B0_get_ = some (.cells [.sl false 6 f_0.get_.Objects.length (flat f_0.get_.Objects), .int .i64 f_0.get_.Root])) (nB0B0_get_ : B0 ≠ B0_get_) : ok (file_File_Get f_0 n_1) (fun r => Q [.agg [.int .i64 r.1.V.Kind, .int .i64 r.1.V.N, .str r.1.V.S.b, .sl false 4 r.1.V.L.length (flat r.1.V.L), .bool r.1.Stream, .str r.1.Data.b], .int .i64 r.2.1, .int .i64 r.2.2] s) → FN Go.Proofs.Try.prog 34 [.ref B0 0, .int .i64 n_1] s Q := by
  have hS : s = ((s.set B0 (.cells [.int .i64 f_0.root_, .int .i64 f_0.count_, .fn 61 [] [.ref B0_get_ 0]])).set B0_get_ (.cells [.sl false 6 f_0.get_.Objects.length (flat f_0.get_.Objects), .int .i64 f_0.get_.Root])) := by simp only [set_eq' hB0, set_eq' hB0_get_]
  rw [hS]
  intro h
  refine FN.of (draw_ok mix) is_file_File_Get rfl (Nat.le_of_ble_eq_true rfl) ?_
  revert h
  rw [ir_file_File_Get, res_file_File_Get, file_File_Get]
  repeat' (first
    | with_reducible exact tt_to
    | with_reducible refine and_to ?_ ?_
    | with_reducible refine im_to ?_
    | with_reducible refine call_to (fun _ (h : file_File_is f_0 = some _) => file_File_is_fe (B0 := B0) (B0_get_ := B0_get_) (by simp -implicitDefEqProofs only [go_sem, start, startE, resVs, resV, resC, allV, retK, Nat.reduceBEq, Nat.reduceAdd, Nat.reduceMul, Nat.reduceLeDiff, Nat.reduceEqDiff, Nat.reduceBNe, Nat.ble_eq, UInt8.reduceToNat, set_ne nB0B0_get_, set_ne nB0B0_get_.symm, set_comm nB0B0_get_, fnok_61]) (by simp -implicitDefEqProofs only [go_sem, start, startE, resVs, resV, resC, allV, retK, Nat.reduceBEq, Nat.reduceAdd, Nat.reduceMul, Nat.reduceLeDiff, Nat.reduceEqDiff, Nat.reduceBNe, Nat.ble_eq, UInt8.reduceToNat, set_ne nB0B0_get_, set_ne nB0B0_get_.symm, set_comm nB0B0_get_, fnok_61]) nB0B0_get_ h) (fun r1 => ?_)
    | with_reducible refine call_to_q (fun _ (h : file_File_is f_0 = some _) => file_File_is_fe (B0 := B0) (B0_get_ := B0_get_) (by simp -implicitDefEqProofs only [go_sem, start, startE, resVs, resV, resC, allV, retK, Nat.reduceBEq, Nat.reduceAdd, Nat.reduceMul, Nat.reduceLeDiff, Nat.reduceEqDiff, Nat.reduceBNe, Nat.ble_eq, UInt8.reduceToNat, set_ne nB0B0_get_, set_ne nB0B0_get_.symm, set_comm nB0B0_get_, fnok_61]) (by simp -implicitDefEqProofs only [go_sem, start, startE, resVs, resV, resC, allV, retK, Nat.reduceBEq, Nat.reduceAdd, Nat.reduceMul, Nat.reduceLeDiff, Nat.reduceEqDiff, Nat.reduceBNe, Nat.ble_eq, UInt8.reduceToNat, set_ne nB0B0_get_, set_ne nB0B0_get_.symm, set_comm nB0B0_get_, fnok_61]) nB0B0_get_ h) (fun _ => rfl) (fun r1 => ?_)
    | with_reducible refine call_to (fun _ (h : file_Of_1 n_1 f_0.get_ = some _) => file_Of_1_fe (B1 := B0_get_) (by simp -implicitDefEqProofs only [go_sem, start, startE, resVs, resV, resC, allV, retK, Nat.reduceBEq, Nat.reduceAdd, Nat.reduceMul, Nat.reduceLeDiff, Nat.reduceEqDiff, Nat.reduceBNe, Nat.ble_eq, UInt8.reduceToNat, set_ne nB0B0_get_, set_ne nB0B0_get_.symm, set_comm nB0B0_get_, fnok_61])  h) (fun r2 => ?_)
    | with_reducible refine call_to_q (fun _ (h : file_Of_1 n_1 f_0.get_ = some _) => file_Of_1_fe (B1 := B0_get_) (by simp -implicitDefEqProofs only [go_sem, start, startE, resVs, resV, resC, allV, retK, Nat.reduceBEq, Nat.reduceAdd, Nat.reduceMul, Nat.reduceLeDiff, Nat.reduceEqDiff, Nat.reduceBNe, Nat.ble_eq, UInt8.reduceToNat, set_ne nB0B0_get_, set_ne nB0B0_get_.symm, set_comm nB0B0_get_, fnok_61])  h) (fun _ => rfl) (fun r2 => ?_)
    | simp -implicitDefEqProofs only [go_sem, start, startE, resVs, resV, resC, allV, retK, Nat.reduceBEq, Nat.reduceAdd, Nat.reduceMul, Nat.reduceLeDiff, Nat.reduceEqDiff, Nat.reduceBNe, Nat.ble_eq, UInt8.reduceToNat, set_ne nB0B0_get_, set_ne nB0B0_get_.symm, set_comm nB0B0_get_, fnok_61])
theorem file_File_Get_fe {f_0 n_1} {B0 B0_get_ : Nat} {s : Store} {r : api_Object × Int × Int} (hB0 : s B0 = some (.cells [.int .i64 f_0.root_, .int .i64 f_0.count_, .fn 61 [] [.ref B0_get_ 0]])) (hB0_get_ : s B0_get_ = some (.cells [.sl false 6 f_0.get_.Objects.length (flat f_0.get_.Objects), .int .i64 f_0.get_.Root])) (nB0B0_get_ : B0 ≠ B0_get_) (h : file_File_Get f_0 n_1 = some r) : FE Go.Proofs.Try.prog 34 [.ref B0 0, .int .i64 n_1] s [.agg [.int .i64 r.1.V.Kind, .int .i64 r.1.V.N, .str r.1.V.S.b, .sl false 4 r.1.V.L.length (flat r.1.V.L), .bool r.1.Stream, .str r.1.Data.b], .int .i64 r.2.1, .int .i64 r.2.2] s := file_File_Get_fn hB0 hB0_get_ nB0B0_get_ ⟨r, h, rfl, rfl⟩
/-- catchword/value.Get -/
def value_Get (v_0 : api_Value) (key_1 : Str) : Option (api_Value × Bool) :=
  bnd (value_find v_0 key_1) fun r1 =>
  if decide (r1 < 0) then
    some ((api_Value.mk 0 0 (Str.mk []) ([] : List api_Value)), false)
  else
    if (w64 (r1 + 1)) == (v_0.L.length : Int) then
      some ((api_Value.mk 0 0 (Str.mk []) ([] : List api_Value)), true)
    else
      need (0 ≤ w64 (r1 + 1) ∧ w64 (r1 + 1) < v_0.L.length) <|
      some (ix v_0.L (w64 (r1 + 1)), true)
def ir_value_Get : IC :=
 (.seq (.reg none [i1 2 (.boxL 4 (.t 0)),
 i1 4 (.allocL [.int .i64 0, .int .i64 0, .str [], .sl true 4 0 []]),
 i1 5 (.mov false (.c (.bool false)))] [1, 2, 4])
 (.seq (.reg none [i1 7 (.load 4 true (.t 2)),
 mv 8 1,
 i1 9 (.call 62 [(.t 7), (.t 8)]),
 mv 6 9] [2, 4, 6])
 (.seq (.block 0 (.seq (.reg none [mv 11 6,
 i1 12 (.bin .lss (.t 11) (.c (.int .i64 0))),
 mv 10 12] [2, 4, 6, 10])
 (.cond (.t 10) (.seq (.reg none [i1 13 (.build [.int .i64 0, .int .i64 0, .str [], .sl true 4 0 []] []),
 i0 (.store 4 (.t 4) (.t 13)),
 i1 5 (.mov false (.c (.bool false)))] [4, 5])
 .ret)
 (.seq (.reg none [mv 15 6,
 i1 16 (.bin .add (.t 15) (.c (.int .i64 1))),
 i1 17 (.fieldAddr 3 (.t 2)),
 i1 18 (.load 1 false (.t 17)),
 i1 19 (.len 0 (.t 18)),
 i1 20 (.bin .eql (.t 16) (.t 19)),
 mv 14 20] [2, 4, 6, 14])
 (.cond (.t 14) (.seq (.reg none [i1 21 (.build [.int .i64 0, .int .i64 0, .str [], .sl true 4 0 []] []),
 i0 (.store 4 (.t 4) (.t 21)),
 i1 5 (.mov false (.c (.bool true)))] [4, 5])
 .ret)
 .skip)))))
 (.seq (.reg none [i1 22 (.fieldAddr 3 (.t 2)),
 i1 23 (.load 1 false (.t 22)),
 mv 24 6,
 i1 25 (.bin .add (.t 24) (.c (.int .i64 1))),
 i1 26 (.indexAddr [.int .i64 0, .int .i64 0, .str [], .sl false 4 0 []] (.t 23) (.t 25)),
 i1 27 (.load 4 true (.t 26)),
 i0 (.store 4 (.t 4) (.t 27)),
 i1 5 (.mov false (.c (.bool true)))] [4, 5])
 .ret))))
def res_value_Get : List IRes := [⟨4, false, some (4, true)⟩, ⟨5, true, none⟩]
theorem is_value_Get : fnIs Go.Proofs.Try.prog 30 28 res_value_Get ir_value_Get = true := by kernel_rfl
theorem value_Get_fn {v_0 key_1} {s : Store} {Q : List AV → Store → Prop}  : ok (value_Get v_0 key_1) (fun r => Q [.agg [.int .i64 r.1.Kind, .int .i64 r.1.N, .str r.1.S.b, .sl false 4 r.1.L.length (flat r.1.L)], .bool r.2] s) → FN Go.Proofs.Try.prog 30 [.agg [.int .i64 v_0.Kind, .int .i64 v_0.N, .str v_0.S.b, .sl false 4 v_0.L.length (flat v_0.L)], .str key_1.b] s Q := by
  intro h
  refine FN.of (draw_ok mix) is_value_Get rfl (Nat.le_of_ble_eq_true rfl) ?_
  revert h
  rw [ir_value_Get, res_value_Get, value_Get]
  repeat' (first
    | with_reducible exact tt_to
    | with_reducible refine and_to ?_ ?_
    | with_reducible refine im_to ?_
    | with_reducible refine call_to (fun _ (h : value_find v_0 key_1 = some _) => value_find_fe h) (fun r1 => ?_)
    | with_reducible refine call_to_q (fun _ (h : value_find v_0 key_1 = some _) => value_find_fe h) (fun _ => rfl) (fun r1 => ?_)
    | with_reducible refine call_to (fun _ (h : value_find v_0 key_1 = some _) => (by refine FE_cast ?_ (value_find_fe h); simp -implicitDefEqProofs only [go_sem, start, startE, resVs, resV, resC, allV, retK, Nat.reduceBEq, Nat.reduceAdd, Nat.reduceMul, Nat.reduceLeDiff, Nat.reduceEqDiff, Nat.reduceBNe, Nat.ble_eq, UInt8.reduceToNat])) (fun r1 => ?_)
    | with_reducible refine call_to_q (fun _ (h : value_find v_0 key_1 = some _) => (by refine FE_cast ?_ (value_find_fe h); simp -implicitDefEqProofs only [go_sem, start, startE, resVs, resV, resC, allV, retK, Nat.reduceBEq, Nat.reduceAdd, Nat.reduceMul, Nat.reduceLeDiff, Nat.reduceEqDiff, Nat.reduceBNe, Nat.ble_eq, UInt8.reduceToNat])) (fun _ => rfl) (fun r1 => ?_)
    | simp -implicitDefEqProofs only [go_sem, start, startE, resVs, resV, resC, allV, retK, Nat.reduceBEq, Nat.reduceAdd, Nat.reduceMul, Nat.reduceLeDiff, Nat.reduceEqDiff, Nat.reduceBNe, Nat.ble_eq, UInt8.reduceToNat])
theorem value_Get_fe {v_0 key_1} {s : Store} {r : api_Value × Bool}  (h : value_Get v_0 key_1 = some r) : FE Go.Proofs.Try.prog 30 [.agg [.int .i64 v_0.Kind, .int .i64 v_0.N, .str v_0.S.b, .sl false 4 v_0.L.length (flat v_0.L)], .str key_1.b] s [.agg [.int .i64 r.1.Kind, .int .i64 r.1.N, .str r.1.S.b, .sl false 4 r.1.L.length (flat r.1.L)], .bool r.2] s := value_Get_fn   ⟨r, h, rfl, rfl⟩
/-- catchword/tree.typed -/
def tree_typed (o_0 : api_Object) (name_1 : Str) : Option (Bool) :=
  bnd (value_Get o_0.V (Str.mk [84, 121, 112, 101])) fun r1 =>
  some ((!o_0.Stream && (r1.1.Kind == 5)) && (r1.1.S.b == name_1.b))
def ir_tree_typed : IC :=
 (.seq (.reg none [i1 2 (.boxL 6 (.t 0)),
 i1 4 (.mov false (.c (.bool false)))] [1, 2])
 (.seq (.reg none [i1 8 (.fieldAddr 0 (.t 2)),
 i1 9 (.load 4 true (.t 8)),
 i1 10 (.call 30 [(.t 9), (.c (.str [84, 121, 112, 101]))]),
 i1 7 (.movT (.t 10)),
 i1 11 (.extract (.t 7) 0),
 i1 12 (.extract (.t 7) 1),
 i1 5 (.allocL [.int .i64 0, .int .i64 0, .str [], .sl true 4 0 []]),
 i0 (.store 4 (.t 5) (.t 11)),
 mv 6 12] [1, 2, 5])
 (.seq (.reg none [i1 13 (.fieldAddr 4 (.t 2)),
 i1 14 (.load 1 false (.t 13)),
 i1 15 (.un .not (.t 14)),
 mv 16 15,
 i1g 17 16 true (.fieldAddr 0 (.t 5)),
 i1g 18 16 true (.load 1 false (.t 17)),
 i1g 19 16 true (.bin .eql (.t 18) (.c (.int .i64 5))),
 i1 20 (.pick (.t 16) (.t 19) (.c (.bool false))),
 mv 21 20,
 i1g 22 21 true (.fieldAddr 2 (.t 5)),
 i1g 23 21 true (.load 1 false (.t 22)),
 mvg 24 1 21 true,
 i1g 25 21 true (.bin .eql (.t 23) (.t 24)),
 i1 26 (.pick (.t 21) (.t 25) (.c (.bool false))),
 mv 4 26] [4])
 .ret)))
def res_tree_typed : List IRes := [⟨4, true, none⟩]
theorem is_tree_typed : fnIs Go.Proofs.Try.prog 72 27 res_tree_typed ir_tree_typed = true := by kernel_rfl
theorem tree_typed_fn {o_0 name_1} {s : Store} {Q : List AV → Store → Prop}  : ok (tree_typed o_0 name_1) (fun r => Q [.bool r] s) → FN Go.Proofs.Try.prog 72 [.agg [.int .i64 o_0.V.Kind, .int .i64 o_0.V.N, .str o_0.V.S.b, .sl false 4 o_0.V.L.length (flat o_0.V.L), .bool o_0.Stream, .str o_0.Data.b], .str name_1.b] s Q := by
  intro h
  refine FN.of (draw_ok mix) is_tree_typed rfl (Nat.le_of_ble_eq_true rfl) ?_
  revert h
  rw [ir_tree_typed, res_tree_typed, tree_typed]
  repeat' (first
    | with_reducible exact tt_to
    | with_reducible refine and_to ?_ ?_
    | with_reducible refine im_to ?_
    | with_reducible refine call_to (fun _ (h : value_Get o_0.V (Str.mk [84, 121, 112, 101]) = some _) => value_Get_fe h) (fun r1 => ?_)
    | with_reducible refine call_to_q (fun _ (h : value_Get o_0.V (Str.mk [84, 121, 112, 101]) = some _) => value_Get_fe h) (fun _ => rfl) (fun r1 => ?_)
    | with_reducible refine call_to (fun _ (h : value_Get o_0.V (Str.mk [84, 121, 112, 101]) = some _) => (by refine FE_cast ?_ (value_Get_fe h); simp -implicitDefEqProofs only [go_sem, start, startE, resVs, resV, resC, allV, retK, Nat.reduceBEq, Nat.reduceAdd, Nat.reduceMul, Nat.reduceLeDiff, Nat.reduceEqDiff, Nat.reduceBNe, Nat.ble_eq, UInt8.reduceToNat])) (fun r1 => ?_)
    | with_reducible refine call_to_q (fun _ (h : value_Get o_0.V (Str.mk [84, 121, 112, 101]) = some _) => (by refine FE_cast ?_ (value_Get_fe h); simp -implicitDefEqProofs only [go_sem, start, startE, resVs, resV, resC, allV, retK, Nat.reduceBEq, Nat.reduceAdd, Nat.reduceMul, Nat.reduceLeDiff, Nat.reduceEqDiff, Nat.reduceBNe, Nat.ble_eq, UInt8.reduceToNat])) (fun _ => rfl) (fun r1 => ?_)
    | simp -implicitDefEqProofs only [go_sem, start, startE, resVs, resV, resC, allV, retK, Nat.reduceBEq, Nat.reduceAdd, Nat.reduceMul, Nat.reduceLeDiff, Nat.reduceEqDiff, Nat.reduceBNe, Nat.ble_eq, UInt8.reduceToNat])
theorem tree_typed_fe {o_0 name_1} {s : Store} {r : Bool}  (h : tree_typed o_0 name_1 = some r) : FE Go.Proofs.Try.prog 72 [.agg [.int .i64 o_0.V.Kind, .int .i64 o_0.V.N, .str o_0.V.S.b, .sl false 4 o_0.V.L.length (flat o_0.V.L), .bool o_0.Stream, .str o_0.Data.b], .str name_1.b] s [.bool r] s := tree_typed_fn   ⟨r, h, rfl, rfl⟩
/-- catchword/tree.Root -/
def tree_Root (o_0 : api_Object) : Option (Int × Bool) :=
  bnd (value_Get o_0.V (Str.mk [80, 97, 103, 101, 115])) fun r1 =>
  bnd (tree_typed o_0 (Str.mk [67, 97, 116, 97, 108, 111, 103])) fun r2 =>
  if !r2 || (r1.1.Kind != 8) then
    some (0, false)
  else
    some (r1.1.N, true)
def ir_tree_Root : IC :=
 (.seq (.reg none [i1 1 (.boxL 6 (.t 0)),
 i1 2 (.mov false (.c (.int .i64 0))),
 i1 3 (.mov false (.c (.bool false)))] [1])
 (.seq (.reg none [i1 7 (.fieldAddr 0 (.t 1)),
 i1 8 (.load 4 true (.t 7)),
 i1 9 (.call 30 [(.t 8), (.c (.str [80, 97, 103, 101, 115]))]),
 i1 6 (.movT (.t 9)),
 i1 10 (.extract (.t 6) 0),
 i1 11 (.extract (.t 6) 1),
 i1 4 (.allocL [.int .i64 0, .int .i64 0, .str [], .sl true 4 0 []]),
 i0 (.store 4 (.t 4) (.t 10)),
 mv 5 11] [1, 4])
 (.seq (.seq (.reg none [i1 12 (.load 6 true (.t 1)),
 i1 13 (.call 72 [(.t 12), (.c (.str [67, 97, 116, 97, 108, 111, 103]))]),
 i1 14 (.un .not (.t 13)),
 mv 15 14,
 i1g 16 15 false (.fieldAddr 0 (.t 4)),
 i1g 17 15 false (.load 1 false (.t 16)),
 i1g 18 15 false (.bin .neq (.t 17) (.c (.int .i64 8))),
 i1 19 (.pick (.t 15) (.c (.bool true)) (.t 18))] [4, 19])
 (.cond (.t 19) (.seq (.reg none [i1 2 (.mov false (.c (.int .i64 0))),
 i1 3 (.mov false (.c (.bool false)))] [2, 3])
 .ret)
 .skip))
 (.seq (.reg none [i1 20 (.fieldAddr 1 (.t 4)),
 i1 21 (.load 1 false (.t 20)),
 mv 2 21,
 i1 3 (.mov false (.c (.bool true)))] [2, 3])
 .ret))))
def res_tree_Root : List IRes := [⟨2, true, none⟩, ⟨3, true, none⟩]
theorem is_tree_Root : fnIs Go.Proofs.Try.prog 29 22 res_tree_Root ir_tree_Root = true := by kernel_rfl
theorem tree_Root_fn {o_0} {s : Store} {Q : List AV → Store → Prop}  : ok (tree_Root o_0) (fun r => Q [.int .i64 r.1, .bool r.2] s) → FN Go.Proofs.Try.prog 29 [.agg [.int .i64 o_0.V.Kind, .int .i64 o_0.V.N, .str o_0.V.S.b, .sl false 4 o_0.V.L.length (flat o_0.V.L), .bool o_0.Stream, .str o_0.Data.b]] s Q := by
  intro h
  refine FN.of (draw_ok mix) is_tree_Root rfl (Nat.le_of_ble_eq_true rfl) ?_
  revert h
  rw [ir_tree_Root, res_tree_Root, tree_Root]
  repeat' (first
    | with_reducible exact tt_to
    | with_reducible refine and_to ?_ ?_
    | with_reducible refine im_to ?_
    | with_reducible refine call_to (fun _ (h : value_Get o_0.V (Str.mk [80, 97, 103, 101, 115]) = some _) => value_Get_fe h) (fun r1 => ?_)
    | with_reducible refine call_to_q (fun _ (h : value_Get o_0.V (Str.mk [80, 97, 103, 101, 115]) = some _) => value_Get_fe h) (fun _ => rfl) (fun r1 => ?_)
    | with_reducible refine call_to (fun _ (h : value_Get o_0.V (Str.mk [80, 97, 103, 101, 115]) = some _) => (by refine FE_cast ?_ (value_Get_fe h); simp -implicitDefEqProofs only [go_sem, start, startE, resVs, resV, resC, allV, retK, Nat.reduceBEq, Nat.reduceAdd, Nat.reduceMul, Nat.reduceLeDiff, Nat.reduceEqDiff, Nat.reduceBNe, Nat.ble_eq, UInt8.reduceToNat])) (fun r1 => ?_)
    | with_reducible refine call_to_q (fun _ (h : value_Get o_0.V (Str.mk [80, 97, 103, 101, 115]) = some _) => (by refine FE_cast ?_ (value_Get_fe h); simp -implicitDefEqProofs only [go_sem, start, startE, resVs, resV, resC, allV, retK, Nat.reduceBEq, Nat.reduceAdd, Nat.reduceMul, Nat.reduceLeDiff, Nat.reduceEqDiff, Nat.reduceBNe, Nat.ble_eq, UInt8.reduceToNat])) (fun _ => rfl) (fun r1 => ?_)
    | with_reducible refine call_to (fun _ (h : tree_typed o_0 (Str.mk [67, 97, 116, 97, 108, 111, 103]) = some _) => tree_typed_fe h) (fun r2 => ?_)
    | with_reducible refine call_to_q (fun _ (h : tree_typed o_0 (Str.mk [67, 97, 116, 97, 108, 111, 103]) = some _) => tree_typed_fe h) (fun _ => rfl) (fun r2 => ?_)
    | with_reducible refine call_to (fun _ (h : tree_typed o_0 (Str.mk [67, 97, 116, 97, 108, 111, 103]) = some _) => (by refine FE_cast ?_ (tree_typed_fe h); simp -implicitDefEqProofs only [go_sem, start, startE, resVs, resV, resC, allV, retK, Nat.reduceBEq, Nat.reduceAdd, Nat.reduceMul, Nat.reduceLeDiff, Nat.reduceEqDiff, Nat.reduceBNe, Nat.ble_eq, UInt8.reduceToNat])) (fun r2 => ?_)
    | with_reducible refine call_to_q (fun _ (h : tree_typed o_0 (Str.mk [67, 97, 116, 97, 108, 111, 103]) = some _) => (by refine FE_cast ?_ (tree_typed_fe h); simp -implicitDefEqProofs only [go_sem, start, startE, resVs, resV, resC, allV, retK, Nat.reduceBEq, Nat.reduceAdd, Nat.reduceMul, Nat.reduceLeDiff, Nat.reduceEqDiff, Nat.reduceBNe, Nat.ble_eq, UInt8.reduceToNat])) (fun _ => rfl) (fun r2 => ?_)
    | simp -implicitDefEqProofs only [go_sem, start, startE, resVs, resV, resC, allV, retK, Nat.reduceBEq, Nat.reduceAdd, Nat.reduceMul, Nat.reduceLeDiff, Nat.reduceEqDiff, Nat.reduceBNe, Nat.ble_eq, UInt8.reduceToNat])
theorem tree_Root_fe {o_0} {s : Store} {r : Int × Bool}  (h : tree_Root o_0 = some r) : FE Go.Proofs.Try.prog 29 [.agg [.int .i64 o_0.V.Kind, .int .i64 o_0.V.N, .str o_0.V.S.b, .sl false 4 o_0.V.L.length (flat o_0.V.L), .bool o_0.Stream, .str o_0.Data.b]] s [.int .i64 r.1, .bool r.2] s := tree_Root_fn   ⟨r, h, rfl, rfl⟩
structure tree_node where
  n_ : Int
  v_ : api_Value
  kids_ : (List Int)
  count_ : Int
instance : Enc tree_node := ⟨7, fun x => [.int .i64 x.n_, .int .i64 x.v_.Kind, .int .i64 x.v_.N, .str x.v_.S.b, .sl false 4 x.v_.L.length (flat x.v_.L), .sl false 1 x.kids_.length (flat x.kids_), .int .i64 x.count_], (tree_node.mk 0 (api_Value.mk 0 0 (Str.mk []) []) [] 0), by decide, fun _ => rfl, fun _ => rfl⟩
@[go_sem] theorem cells_tree_node (x : tree_node) : Enc.cells x = [.int .i64 x.n_, .int .i64 x.v_.Kind, .int .i64 x.v_.N, .str x.v_.S.b, .sl false 4 x.v_.L.length (flat x.v_.L), .sl false 1 x.kids_.length (flat x.kids_), .int .i64 x.count_] := rfl
@[go_sem] theorem w_tree_node : Enc.w tree_node = 7 := rfl
@[go_sem] theorem pad_tree_node (l : List tree_node) (i : Int) : pad [.int .i64 0, .int .i64 0, .int .i64 0, .str [], .sl false 4 0 [], .sl false 1 0 [], .int .i64 0] (views (AB.sub (flat l) (i.toNat * 7) 7)) = [.int .i64 ((ix l i).n_), .int .i64 (((ix l i).v_).Kind), .int .i64 (((ix l i).v_).N), .str (((ix l i).v_).S).b, .sl false 4 (((ix l i).v_).L).length (flat (((ix l i).v_).L)), .sl false 1 ((ix l i).kids_).length (flat ((ix l i).kids_)), .int .i64 ((ix l i).count_)] := by
  rw [← cells_tree_node]; exact flat_pad _ 7 l i (by rw [cells_tree_node]; rfl) rfl
@[go_sem] theorem mk_tree_node (x : tree_node) : tree_node.mk x.n_ x.v_ x.kids_ x.count_ = x := by cases x; rfl
/-- catchword/tree.nodeOf -/
def tree_nodeOf (n_0 : Int) (o_1 : api_Object) : Option (tree_node × Bool) :=
  bnd (value_Get o_1.V (Str.mk [75, 105, 100, 115])) fun r1 =>
  bnd (value_Get o_1.V (Str.mk [67, 111, 117, 110, 116])) fun r2 =>
  bnd (tree_typed o_1 (Str.mk [80, 97, 103, 101, 115])) fun r3 =>
  if ((!r3 || (r1.1.Kind != 6)) || ((r1.1.L.length : Int) == 0)) || (r2.1.Kind != 2) then
    some ((tree_node.mk n_0 o_1.V ([] : List Int) 0), false)
  else
    jnS (
      bndS (
        iter (fun ((x9, t10) : tree_node × Int) =>
          if decide (t10 < (r1.1.L.length : Int)) then
            need (0 ≤ t10 ∧ t10 < r1.1.L.length) <|
            if ((ix r1.1.L t10).Kind) != 8 then
              some (.inr (.inr (x9, false)))
            else
              need ((x9.kids_.length + [(ix r1.1.L t10).N].length) * 8 ≤ room) <|
              some (.inl ((tree_node.mk x9.n_ x9.v_ (x9.kids_ ++ [(ix r1.1.L t10).N]) x9.count_), w64 (t10 + 1)))
          else
            some (.inr (.inl x9))) ((tree_node.mk n_0 o_1.V ([] : List Int) 0), 0)) (fun (x12 : tree_node) =>
        some (.inl x12))
      (fun ((t14, t15) : tree_node × Bool) => some (.inr (t14, t15)))) (fun (x5 : tree_node) =>
      some ((tree_node.mk x5.n_ x5.v_ x5.kids_ r2.1.N), (decide (r2.1.N ≥ (x5.kids_.length : Int))) && (decide (r2.1.N ≤ 2048))))
    (fun ((t7, t8) : tree_node × Bool) => some (t7, t8))
def ir_tree_nodeOf : IC :=
 (.seq (.reg none [i1 3 (.boxL 6 (.t 1)),
 i1 4 (.allocL [.int .i64 0, .int .i64 0, .int .i64 0, .str [], .sl true 4 0 [], .sl true 1 0 [], .int .i64 0]),
 i1 5 (.mov false (.c (.bool false)))] [0, 3, 4])
 (.seq (.reg none [mv 13 0,
 i1 14 (.fieldAddr 0 (.t 3)),
 i1 15 (.load 4 true (.t 14)),
 i1 16 (.build [.int .i64 0, .int .i64 0, .int .i64 0, .str [], .sl true 4 0 [], .arr 0 0 0 0, .int .i64 0] [(0, 1, (.t 13)), (1, 4, (.t 15))]),
 i1 6 (.allocL [.int .i64 0, .int .i64 0, .int .i64 0, .str [], .sl true 4 0 [], .sl true 1 0 [], .int .i64 0]),
 i0 (.storeN 1 7 (.t 6) (.t 16))] [3, 4, 6])
 (.seq (.reg none [i1 18 (.fieldAddr 0 (.t 3)),
 i1 19 (.load 4 true (.t 18)),
 i1 20 (.call 30 [(.t 19), (.c (.str [75, 105, 100, 115]))]),
 i1 17 (.movT (.t 20)),
 i1 21 (.extract (.t 17) 0),
 i1 22 (.extract (.t 17) 1),
 i1 7 (.allocL [.int .i64 0, .int .i64 0, .str [], .sl true 4 0 []]),
 i0 (.store 4 (.t 7) (.t 21)),
 mv 8 22] [3, 4, 6, 7])
 (.seq (.reg none [i1 24 (.fieldAddr 0 (.t 3)),
 i1 25 (.load 4 true (.t 24)),
 i1 26 (.call 30 [(.t 25), (.c (.str [67, 111, 117, 110, 116]))]),
 i1 23 (.movT (.t 26)),
 i1 27 (.extract (.t 23) 0),
 i1 28 (.extract (.t 23) 1),
 i1 9 (.allocL [.int .i64 0, .int .i64 0, .str [], .sl true 4 0 []]),
 i0 (.store 4 (.t 9) (.t 27)),
 mv 10 28] [3, 4, 6, 7, 9])
 (.seq (.seq (.reg none [i1 29 (.load 6 true (.t 3)),
 i1 30 (.call 72 [(.t 29), (.c (.str [80, 97, 103, 101, 115]))]),
 i1 31 (.un .not (.t 30)),
 mv 32 31,
 i1g 33 32 false (.fieldAddr 0 (.t 7)),
 i1g 34 32 false (.load 1 false (.t 33)),
 i1g 35 32 false (.bin .neq (.t 34) (.c (.int .i64 6))),
 i1 36 (.pick (.t 32) (.c (.bool true)) (.t 35)),
 mv 37 36,
 i1g 38 37 false (.fieldAddr 3 (.t 7)),
 i1g 39 37 false (.load 1 false (.t 38)),
 i1g 40 37 false (.len 0 (.t 39)),
 i1g 41 37 false (.bin .eql (.t 40) (.c (.int .i64 0))),
 i1 42 (.pick (.t 37) (.c (.bool true)) (.t 41)),
 mv 43 42,
 i1g 44 43 false (.fieldAddr 0 (.t 9)),
 i1g 45 43 false (.load 1 false (.t 44)),
 i1g 46 43 false (.bin .neq (.t 45) (.c (.int .i64 2))),
 i1 47 (.pick (.t 43) (.c (.bool true)) (.t 46))] [4, 6, 7, 9, 47])
 (.cond (.t 47) (.seq (.reg none [i1 48 (.load 7 true (.t 6)),
 i0 (.store 7 (.t 4) (.t 48)),
 i1 5 (.mov false (.c (.bool false)))] [4, 5])
 .ret)
 .skip))
 (.join [(4, false), (6, false), (9, false)] (.seq (.reg none [i1 49 (.fieldAddr 3 (.t 7)),
 i1 50 (.load 1 false (.t 49)),
 i1 51 (.len 0 (.t 50)),
 i1 52 (.mov false (.c (.int .i64 0)))] [4, 6, 9, 50, 51, 52])
 (.block 0 (.loop [(4, false), (6, false), (9, false), (50, true), (51, false), (52, false)] (.seq (.reg none [i1 53 (.bin .lss (.t 52) (.t 51))] [4, 6, 9, 50, 51, 52, 53])
 (.seq (.cond (.t 53) .skip
 (.exit 0))
 (.seq (.block 1 (.seq (.reg none [i1 54 (.indexAddr [.int .i64 0, .int .i64 0, .str [], .sl false 4 0 []] (.t 50) (.t 52)),
 i1 55 (.load 4 true (.t 54)),
 i1 12 (.allocL [.int .i64 0, .int .i64 0, .str [], .sl true 4 0 []]),
 i0 (.store 4 (.t 12) (.t 55))] [4, 6, 9, 12, 50, 51, 52])
 (.seq (.seq (.reg none [i1 56 (.fieldAddr 0 (.t 12)),
 i1 57 (.load 1 false (.t 56)),
 i1 58 (.bin .neq (.t 57) (.c (.int .i64 8)))] [4, 6, 9, 12, 50, 51, 52, 58])
 (.cond (.t 58) (.seq (.reg none [i1 59 (.load 7 true (.t 6)),
 i0 (.store 7 (.t 4) (.t 59)),
 i1 5 (.mov false (.c (.bool false)))] [4, 5])
 .ret)
 .skip))
 (.reg none [i1 60 (.fieldAddr 5 (.t 6)),
 i1 61 (.loadD (.t 60)),
 i1 62 (.fieldAddr 1 (.t 12)),
 i1 63 (.load 1 false (.t 62)),
 i1 64 (.buildSl 1 1 [.int .i64 0] [(0, 1, (.t 63))]),
 i1 65 (.append 1 8 (.t 61) (.t 64)),
 i1 66 (.fieldAddr 5 (.t 6)),
 i0 (.store 1 (.t 66) (.t 65))] [4, 6, 9, 50, 51, 52]))))
 (.reg none [i1 67 (.bin .add (.t 52) (.c (.int .i64 1))),
 mv 52 67] [4, 6, 9, 50, 51, 52])))))))
 (.seq (.reg none [i1 68 (.fieldAddr 1 (.t 9)),
 i1 69 (.load 1 false (.t 68)),
 i1 70 (.fieldAddr 6 (.t 6)),
 i0 (.store 1 (.t 70) (.t 69))] [4, 6])
 (.seq (.regT [4] 14 [i1 71 (.load 7 true (.t 6)),
 i1 72 (.fieldAddr 6 (.t 6)),
 i1 73 (.load 1 false (.t 72)),
 i1 74 (.fieldAddr 5 (.t 6)),
 i1 75 (.load 1 false (.t 74)),
 i1 76 (.len 0 (.t 75)),
 i1 77 (.bin .geq (.t 73) (.t 76)),
 mv 78 77,
 i1g 79 78 true (.fieldAddr 6 (.t 6)),
 i1g 80 78 true (.load 1 false (.t 79)),
 i1g 81 78 true (.bin .leq (.t 80) (.c (.int .i64 2048))),
 i1 82 (.pick (.t 78) (.t 81) (.c (.bool false))),
 i0 (.store 7 (.t 4) (.t 71)),
 mv 5 82] [4, 5])
 .ret))))))))
def res_tree_nodeOf : List IRes := [⟨4, false, some (7, true)⟩, ⟨5, true, none⟩]
theorem is_tree_nodeOf : fnIs Go.Proofs.Try.prog 70 83 res_tree_nodeOf ir_tree_nodeOf = true := by kernel_rfl
theorem tree_nodeOf_fn {n_0 o_1} {s : Store} {Q : List AV → Store → Prop}  : ok (tree_nodeOf n_0 o_1) (fun r => Q [.agg [.int .i64 r.1.n_, .int .i64 r.1.v_.Kind, .int .i64 r.1.v_.N, .str r.1.v_.S.b, .sl false 4 r.1.v_.L.length (flat r.1.v_.L), .sl false 1 r.1.kids_.length (flat r.1.kids_), .int .i64 r.1.count_], .bool r.2] s) → FN Go.Proofs.Try.prog 70 [.int .i64 n_0, .agg [.int .i64 o_1.V.Kind, .int .i64 o_1.V.N, .str o_1.V.S.b, .sl false 4 o_1.V.L.length (flat o_1.V.L), .bool o_1.Stream, .str o_1.Data.b]] s Q := by
  intro h
  refine FN.of (draw_ok mix) is_tree_nodeOf rfl (Nat.le_of_ble_eq_true rfl) ?_
  revert h
  rw [ir_tree_nodeOf, res_tree_nodeOf, tree_nodeOf]
  repeat' (first
    | with_reducible exact tt_to
    | ((with_reducible refine b_to ?_ ?_); exact rfl)
    | ((with_reducible refine n_to ?_ ?_); exact rfl)
    | with_reducible refine and_to ?_ ?_
    | with_reducible refine im_to ?_
    | with_reducible refine call_to (fun _ (h : value_Get o_1.V (Str.mk [75, 105, 100, 115]) = some _) => value_Get_fe h) (fun r1 => ?_)
    | with_reducible refine call_to_q (fun _ (h : value_Get o_1.V (Str.mk [75, 105, 100, 115]) = some _) => value_Get_fe h) (fun _ => rfl) (fun r1 => ?_)
    | with_reducible refine call_to (fun _ (h : value_Get o_1.V (Str.mk [75, 105, 100, 115]) = some _) => (by refine FE_cast ?_ (value_Get_fe h); simp -implicitDefEqProofs only [go_sem, start, startE, resVs, resV, resC, allV, retK, Nat.reduceBEq, Nat.reduceAdd, Nat.reduceMul, Nat.reduceLeDiff, Nat.reduceEqDiff, Nat.reduceBNe, Nat.ble_eq, UInt8.reduceToNat])) (fun r1 => ?_)
    | with_reducible refine call_to_q (fun _ (h : value_Get o_1.V (Str.mk [75, 105, 100, 115]) = some _) => (by refine FE_cast ?_ (value_Get_fe h); simp -implicitDefEqProofs only [go_sem, start, startE, resVs, resV, resC, allV, retK, Nat.reduceBEq, Nat.reduceAdd, Nat.reduceMul, Nat.reduceLeDiff, Nat.reduceEqDiff, Nat.reduceBNe, Nat.ble_eq, UInt8.reduceToNat])) (fun _ => rfl) (fun r1 => ?_)
    | with_reducible refine call_to (fun _ (h : value_Get o_1.V (Str.mk [67, 111, 117, 110, 116]) = some _) => value_Get_fe h) (fun r2 => ?_)
    | with_reducible refine call_to_q (fun _ (h : value_Get o_1.V (Str.mk [67, 111, 117, 110, 116]) = some _) => value_Get_fe h) (fun _ => rfl) (fun r2 => ?_)
    | with_reducible refine call_to (fun _ (h : value_Get o_1.V (Str.mk [67, 111, 117, 110, 116]) = some _) => (by refine FE_cast ?_ (value_Get_fe h); simp -implicitDefEqProofs only [go_sem, start, startE, resVs, resV, resC, allV, retK, Nat.reduceBEq, Nat.reduceAdd, Nat.reduceMul, Nat.reduceLeDiff, Nat.reduceEqDiff, Nat.reduceBNe, Nat.ble_eq, UInt8.reduceToNat])) (fun r2 => ?_)
    | with_reducible refine call_to_q (fun _ (h : value_Get o_1.V (Str.mk [67, 111, 117, 110, 116]) = some _) => (by refine FE_cast ?_ (value_Get_fe h); simp -implicitDefEqProofs only [go_sem, start, startE, resVs, resV, resC, allV, retK, Nat.reduceBEq, Nat.reduceAdd, Nat.reduceMul, Nat.reduceLeDiff, Nat.reduceEqDiff, Nat.reduceBNe, Nat.ble_eq, UInt8.reduceToNat])) (fun _ => rfl) (fun r2 => ?_)
    | with_reducible refine call_to (fun _ (h : tree_typed o_1 (Str.mk [80, 97, 103, 101, 115]) = some _) => tree_typed_fe h) (fun r3 => ?_)
    | with_reducible refine call_to_q (fun _ (h : tree_typed o_1 (Str.mk [80, 97, 103, 101, 115]) = some _) => tree_typed_fe h) (fun _ => rfl) (fun r3 => ?_)
    | with_reducible refine call_to (fun _ (h : tree_typed o_1 (Str.mk [80, 97, 103, 101, 115]) = some _) => (by refine FE_cast ?_ (tree_typed_fe h); simp -implicitDefEqProofs only [go_sem, start, startE, resVs, resV, resC, allV, retK, Nat.reduceBEq, Nat.reduceAdd, Nat.reduceMul, Nat.reduceLeDiff, Nat.reduceEqDiff, Nat.reduceBNe, Nat.ble_eq, UInt8.reduceToNat])) (fun r3 => ?_)
    | with_reducible refine call_to_q (fun _ (h : tree_typed o_1 (Str.mk [80, 97, 103, 101, 115]) = some _) => (by refine FE_cast ?_ (tree_typed_fe h); simp -implicitDefEqProofs only [go_sem, start, startE, resVs, resV, resC, allV, retK, Nat.reduceBEq, Nat.reduceAdd, Nat.reduceMul, Nat.reduceLeDiff, Nat.reduceEqDiff, Nat.reduceBNe, Nat.ble_eq, UInt8.reduceToNat])) (fun _ => rfl) (fun r3 => ?_)
    | ((with_reducible refine iter_to (fun ((x9, t10) : tree_node × Int) => ⟨[(4, .loc [.int .i64 0, .int .i64 0, .int .i64 0, .str (Str.mk []).b, .sl true 4 ([] : List api_Value).length (flat ([] : List api_Value)), .sl true 1 ([] : List Int).length (flat ([] : List Int)), .int .i64 0]), (6, .loc [.int .i64 x9.n_, .int .i64 x9.v_.Kind, .int .i64 x9.v_.N, .str x9.v_.S.b, .sl false 4 x9.v_.L.length (flat x9.v_.L), .sl true 1 x9.kids_.length (flat x9.kids_), .int .i64 x9.count_]), (9, .loc [.int .i64 r2.1.Kind, .int .i64 r2.1.N, .str r2.1.S.b, .sl false 4 r2.1.L.length (flat r2.1.L)]), (50, .sl false 4 r1.1.L.length (flat r1.1.L)), (51, .int .i64 (r1.1.L.length : Int)), (52, .int .i64 t10)], [], s⟩) ?_ ?_); (first | exact rfl | simp -implicitDefEqProofs only [go_sem, start, startE, resVs, resV, resC, allV, retK, Nat.reduceBEq, Nat.reduceAdd, Nat.reduceMul, Nat.reduceLeDiff, Nat.reduceEqDiff, Nat.reduceBNe, Nat.ble_eq, UInt8.reduceToNat]); rintro J ⟨x9, t10⟩)
    | ((with_reducible refine join_toS (fun (x5 : tree_node) => ⟨[(4, .loc [.int .i64 0, .int .i64 0, .int .i64 0, .str (Str.mk []).b, .sl true 4 ([] : List api_Value).length (flat ([] : List api_Value)), .sl true 1 ([] : List Int).length (flat ([] : List Int)), .int .i64 0]), (6, .loc [.int .i64 x5.n_, .int .i64 x5.v_.Kind, .int .i64 x5.v_.N, .str x5.v_.S.b, .sl false 4 x5.v_.L.length (flat x5.v_.L), .sl true 1 x5.kids_.length (flat x5.kids_), .int .i64 x5.count_]), (9, .loc [.int .i64 r2.1.Kind, .int .i64 r2.1.N, .str r2.1.S.b, .sl false 4 r2.1.L.length (flat r2.1.L)])], [], s⟩) (fun J => ?_) ?_); rotate_left; rintro x5)
    | simp -implicitDefEqProofs only [go_sem, start, startE, resVs, resV, resC, allV, retK, Nat.reduceBEq, Nat.reduceAdd, Nat.reduceMul, Nat.reduceLeDiff, Nat.reduceEqDiff, Nat.reduceBNe, Nat.ble_eq, UInt8.reduceToNat])
theorem tree_nodeOf_fe {n_0 o_1} {s : Store} {r : tree_node × Bool}  (h : tree_nodeOf n_0 o_1 = some r) : FE Go.Proofs.Try.prog 70 [.int .i64 n_0, .agg [.int .i64 o_1.V.Kind, .int .i64 o_1.V.N, .str o_1.V.S.b, .sl false 4 o_1.V.L.length (flat o_1.V.L), .bool o_1.Stream, .str o_1.Data.b]] s [.agg [.int .i64 r.1.n_, .int .i64 r.1.v_.Kind, .int .i64 r.1.v_.N, .str r.1.v_.S.b, .sl false 4 r.1.v_.L.length (flat r.1.v_.L), .sl false 1 r.1.kids_.length (flat r.1.kids_), .int .i64 r.1.count_], .bool r.2] s := tree_nodeOf_fn   ⟨r, h, rfl, rfl⟩
/-- catchword/tree.ask -/
def tree_ask (f_0 : file_File) (n_1 : Int) : Option (tree_node × Int × Int) :=
  bnd (file_File_Get f_0 n_1) fun r1 =>
  if r1.2.2 != 0 then
    some ((tree_node.mk 0 (api_Value.mk 0 0 (Str.mk []) ([] : List api_Value)) ([] : List Int) 0), r1.2.1, r1.2.2)
  else
    bnd (tree_nodeOf n_1 r1.1) fun r2 =>
    if !r2.2 then
      some ((tree_node.mk 0 (api_Value.mk 0 0 (Str.mk []) ([] : List api_Value)) ([] : List Int) 0), 0, 24)
    else
      some (r2.1, 0, 0)
def ir_tree_ask : IC :=
 (.seq (.reg none [i1 4 (.allocL [.int .i64 0, .int .i64 0, .int .i64 0, .str [], .sl true 4 0 [], .sl true 1 0 [], .int .i64 0]),
 i1 5 (.mov false (.c (.int .i64 0))),
 i1 6 (.mov false (.c (.int .i64 0)))] [0, 1, 4])
 (.seq (.reg none [mv 13 0,
 mv 14 1,
 i1 15 (.call 34 [(.t 13), (.t 14)]),
 i1 12 (.movT (.t 15)),
 i1 16 (.extract (.t 12) 0),
 i1 17 (.extract (.t 12) 1),
 i1 18 (.extract (.t 12) 2),
 i1 7 (.allocL [.int .i64 0, .int .i64 0, .str [], .sl true 4 0 [], .bool false, .str []]),
 i0 (.store 6 (.t 7) (.t 16)),
 mv 8 17,
 mv 9 18] [1, 4, 7, 8, 9])
 (.seq (.seq (.reg none [mv 19 9,
 i1 20 (.bin .neq (.t 19) (.c (.int .i64 0)))] [1, 4, 7, 8, 9, 20])
 (.cond (.t 20) (.seq (.reg none [i1 21 (.build [.int .i64 0, .int .i64 0, .int .i64 0, .str [], .sl true 4 0 [], .sl true 1 0 [], .int .i64 0] []),
 mv 22 8,
 mv 23 9,
 i0 (.store 7 (.t 4) (.t 21)),
 mv 5 22,
 mv 6 23] [4, 5, 6])
 .ret)
 .skip))
 (.seq (.reg none [mv 25 1,
 i1 26 (.load 6 true (.t 7)),
 i1 27 (.call 70 [(.t 25), (.t 26)]),
 i1 24 (.movT (.t 27)),
 i1 28 (.extract (.t 24) 0),
 i1 29 (.extract (.t 24) 1),
 i1 10 (.allocL [.int .i64 0, .int .i64 0, .int .i64 0, .str [], .sl true 4 0 [], .sl true 1 0 [], .int .i64 0]),
 i0 (.store 7 (.t 10) (.t 28)),
 mv 11 29] [4, 10, 11])
 (.seq (.seq (.reg none [mv 30 11,
 i1 31 (.un .not (.t 30))] [4, 10, 31])
 (.cond (.t 31) (.seq (.reg none [i1 32 (.build [.int .i64 0, .int .i64 0, .int .i64 0, .str [], .sl true 4 0 [], .sl true 1 0 [], .int .i64 0] []),
 i0 (.store 7 (.t 4) (.t 32)),
 i1 5 (.mov false (.c (.int .i64 0))),
 i1 6 (.mov false (.c (.int .i64 24)))] [4, 5, 6])
 .ret)
 .skip))
 (.seq (.reg none [i1 33 (.load 7 true (.t 10)),
 i0 (.store 7 (.t 4) (.t 33)),
 i1 5 (.mov false (.c (.int .i64 0))),
 i1 6 (.mov false (.c (.int .i64 0)))] [4, 5, 6])
 .ret))))))
def res_tree_ask : List IRes := [⟨4, false, some (7, true)⟩, ⟨5, true, none⟩, ⟨6, true, none⟩]
theorem is_tree_ask : fnIs Go.Proofs.Try.prog 76 34 res_tree_ask ir_tree_ask = true := by kernel_rfl
theorem tree_ask_fn {f_0 n_1} {B0 B0_get_ : Nat} {s : Store} {Q : List AV → Store → Prop} (hB0 : s B0 = some (.cells [.int .i64 f_0.root_, .int .i64 f_0.count_, .fn 61 [] [.ref B0_get_ 0]])) (hB0_get_ : s B0_get_ = some (.cells [.sl false 6 f_0.get_.Objects.length (flat f_0.get_.Objects), .int .i64 f_0.get_.Root])) (nB0B0_get_ : B0 ≠ B0_get_) : ok (tree_ask f_0 n_1) (fun r => Q [.agg [.int .i64 r.1.n_, .int .i64 r.1.v_.Kind, .int .i64 r.1.v_.N, .str r.1.v_.S.b, .sl false 4 r.1.v_.L.length (flat r.1.v_.L), .sl false 1 r.1.kids_.length (flat r.1.kids_), .int .i64 r.1.count_], .int .i64 r.2.1, .int .i64 r.2.2] s) → FN Go.Proofs.Try.prog 76 [.ref B0 0, .int .i64 n_1] s Q := by
  have hS : s = ((s.set B0 (.cells [.int .i64 f_0.root_, .int .i64 f_0.count_, .fn 61 [] [.ref B0_get_ 0]])).set B0_get_ (.cells [.sl false 6 f_0.get_.Objects.length (flat f_0.get_.Objects), .int .i64 f_0.get_.Root])) := by simp only [set_eq' hB0, set_eq' hB0_get_]
  rw [hS]
  intro h
  refine FN.of (draw_ok mix) is_tree_ask rfl (Nat.le_of_ble_eq_true rfl) ?_
  revert h
  rw [ir_tree_ask, res_tree_ask, tree_ask]
  repeat' (first
    | with_reducible exact tt_to
    | with_reducible refine and_to ?_ ?_
    | with_reducible refine im_to ?_
    | with_reducible refine call_to (fun _ (h : file_File_Get f_0 n_1 = some _) => file_File_Get_fe (B0 := B0) (B0_get_ := B0_get_) (by simp -implicitDefEqProofs only [go_sem, start, startE, resVs, resV, resC, allV, retK, Nat.reduceBEq, Nat.reduceAdd, Nat.reduceMul, Nat.reduceLeDiff, Nat.reduceEqDiff, Nat.reduceBNe, Nat.ble_eq, UInt8.reduceToNat, set_ne nB0B0_get_, set_ne nB0B0_get_.symm, set_comm nB0B0_get_]) (by simp -implicitDefEqProofs only [go_sem, start, startE, resVs, resV, resC, allV, retK, Nat.reduceBEq, Nat.reduceAdd, Nat.reduceMul, Nat.reduceLeDiff, Nat.reduceEqDiff, Nat.reduceBNe, Nat.ble_eq, UInt8.reduceToNat, set_ne nB0B0_get_, set_ne nB0B0_get_.symm, set_comm nB0B0_get_]) nB0B0_get_ h) (fun r1 => ?_)
    | with_reducible refine call_to_q (fun _ (h : file_File_Get f_0 n_1 = some _) => file_File_Get_fe (B0 := B0) (B0_get_ := B0_get_) (by simp -implicitDefEqProofs only [go_sem, start, startE, resVs, resV, resC, allV, retK, Nat.reduceBEq, Nat.reduceAdd, Nat.reduceMul, Nat.reduceLeDiff, Nat.reduceEqDiff, Nat.reduceBNe, Nat.ble_eq, UInt8.reduceToNat, set_ne nB0B0_get_, set_ne nB0B0_get_.symm, set_comm nB0B0_get_]) (by simp -implicitDefEqProofs only [go_sem, start, startE, resVs, resV, resC, allV, retK, Nat.reduceBEq, Nat.reduceAdd, Nat.reduceMul, Nat.reduceLeDiff, Nat.reduceEqDiff, Nat.reduceBNe, Nat.ble_eq, UInt8.reduceToNat, set_ne nB0B0_get_, set_ne nB0B0_get_.symm, set_comm nB0B0_get_]) nB0B0_get_ h) (fun _ => rfl) (fun r1 => ?_)
    | with_reducible refine call_to (fun _ (h : tree_nodeOf n_1 r1.1 = some _) => tree_nodeOf_fe h) (fun r2 => ?_)
    | with_reducible refine call_to_q (fun _ (h : tree_nodeOf n_1 r1.1 = some _) => tree_nodeOf_fe h) (fun _ => rfl) (fun r2 => ?_)
    | with_reducible refine call_to (fun _ (h : tree_nodeOf n_1 r1.1 = some _) => (by refine FE_cast ?_ (tree_nodeOf_fe h); simp -implicitDefEqProofs only [go_sem, start, startE, resVs, resV, resC, allV, retK, Nat.reduceBEq, Nat.reduceAdd, Nat.reduceMul, Nat.reduceLeDiff, Nat.reduceEqDiff, Nat.reduceBNe, Nat.ble_eq, UInt8.reduceToNat, set_ne nB0B0_get_, set_ne nB0B0_get_.symm, set_comm nB0B0_get_])) (fun r2 => ?_)
    | with_reducible refine call_to_q (fun _ (h : tree_nodeOf n_1 r1.1 = some _) => (by refine FE_cast ?_ (tree_nodeOf_fe h); simp -implicitDefEqProofs only [go_sem, start, startE, resVs, resV, resC, allV, retK, Nat.reduceBEq, Nat.reduceAdd, Nat.reduceMul, Nat.reduceLeDiff, Nat.reduceEqDiff, Nat.reduceBNe, Nat.ble_eq, UInt8.reduceToNat, set_ne nB0B0_get_, set_ne nB0B0_get_.symm, set_comm nB0B0_get_])) (fun _ => rfl) (fun r2 => ?_)
    | simp -implicitDefEqProofs only [go_sem, start, startE, resVs, resV, resC, allV, retK, Nat.reduceBEq, Nat.reduceAdd, Nat.reduceMul, Nat.reduceLeDiff, Nat.reduceEqDiff, Nat.reduceBNe, Nat.ble_eq, UInt8.reduceToNat, set_ne nB0B0_get_, set_ne nB0B0_get_.symm, set_comm nB0B0_get_])
theorem tree_ask_fe {f_0 n_1} {B0 B0_get_ : Nat} {s : Store} {r : tree_node × Int × Int} (hB0 : s B0 = some (.cells [.int .i64 f_0.root_, .int .i64 f_0.count_, .fn 61 [] [.ref B0_get_ 0]])) (hB0_get_ : s B0_get_ = some (.cells [.sl false 6 f_0.get_.Objects.length (flat f_0.get_.Objects), .int .i64 f_0.get_.Root])) (nB0B0_get_ : B0 ≠ B0_get_) (h : tree_ask f_0 n_1 = some r) : FE Go.Proofs.Try.prog 76 [.ref B0 0, .int .i64 n_1] s [.agg [.int .i64 r.1.n_, .int .i64 r.1.v_.Kind, .int .i64 r.1.v_.N, .str r.1.v_.S.b, .sl false 4 r.1.v_.L.length (flat r.1.v_.L), .sl false 1 r.1.kids_.length (flat r.1.kids_), .int .i64 r.1.count_], .int .i64 r.2.1, .int .i64 r.2.2] s := tree_ask_fn hB0 hB0_get_ nB0B0_get_ ⟨r, h, rfl, rfl⟩
/-- catchword/tree.top -/
def tree_top (f_0 : file_File) : Option (tree_node × Int × Int) :=
  bnd (file_File_Root f_0) fun r1 =>
  bnd (file_File_Get f_0 r1) fun r2 =>
  if r2.2.2 != 0 then
    some ((tree_node.mk 0 (api_Value.mk 0 0 (Str.mk []) ([] : List api_Value)) ([] : List Int) 0), r2.2.1, r2.2.2)
  else
    bnd (tree_Root r2.1) fun r3 =>
    if !r3.2 then
      some ((tree_node.mk 0 (api_Value.mk 0 0 (Str.mk []) ([] : List api_Value)) ([] : List Int) 0), 0, 23)
    else
      bnd (tree_ask f_0 r3.1) fun r4 =>
      some (r4.1, r4.2.1, r4.2.2)
def ir_tree_top : IC :=
 (.seq (.reg none [i1 2 (.allocL [.int .i64 0, .int .i64 0, .int .i64 0, .str [], .sl true 4 0 [], .sl true 1 0 [], .int .i64 0]),
 i1 3 (.mov false (.c (.int .i64 0))),
 i1 4 (.mov false (.c (.int .i64 0)))] [0, 2])
 (.seq (.reg none [mv 11 0,
 mv 12 0,
 i1 13 (.call 79 [(.t 12)]),
 i1 14 (.call 34 [(.t 11), (.t 13)]),
 i1 10 (.movT (.t 14)),
 i1 15 (.extract (.t 10) 0),
 i1 16 (.extract (.t 10) 1),
 i1 17 (.extract (.t 10) 2),
 i1 5 (.allocL [.int .i64 0, .int .i64 0, .str [], .sl true 4 0 [], .bool false, .str []]),
 i0 (.store 6 (.t 5) (.t 15)),
 mv 6 16,
 mv 7 17] [0, 2, 5, 6, 7])
 (.seq (.seq (.reg none [mv 18 7,
 i1 19 (.bin .neq (.t 18) (.c (.int .i64 0)))] [0, 2, 5, 6, 7, 19])
 (.cond (.t 19) (.seq (.reg none [i1 20 (.build [.int .i64 0, .int .i64 0, .int .i64 0, .str [], .sl true 4 0 [], .sl true 1 0 [], .int .i64 0] []),
 mv 21 6,
 mv 22 7,
 i0 (.store 7 (.t 2) (.t 20)),
 mv 3 21,
 mv 4 22] [2, 3, 4])
 .ret)
 .skip))
 (.seq (.reg none [i1 24 (.load 6 true (.t 5)),
 i1 25 (.call 29 [(.t 24)]),
 i1 23 (.movT (.t 25)),
 i1 26 (.extract (.t 23) 0),
 i1 27 (.extract (.t 23) 1),
 mv 8 26,
 mv 9 27] [0, 2, 8, 9])
 (.seq (.seq (.reg none [mv 28 9,
 i1 29 (.un .not (.t 28))] [0, 2, 8, 29])
 (.cond (.t 29) (.seq (.reg none [i1 30 (.build [.int .i64 0, .int .i64 0, .int .i64 0, .str [], .sl true 4 0 [], .sl true 1 0 [], .int .i64 0] []),
 i0 (.store 7 (.t 2) (.t 30)),
 i1 3 (.mov false (.c (.int .i64 0))),
 i1 4 (.mov false (.c (.int .i64 23)))] [2, 3, 4])
 .ret)
 .skip))
 (.seq (.reg none [mv 31 0,
 mv 32 8,
 i1 33 (.call 76 [(.t 31), (.t 32)]),
 i1 34 (.extract (.t 33) 0),
 i1 35 (.extract (.t 33) 1),
 i1 36 (.extract (.t 33) 2),
 i0 (.store 7 (.t 2) (.t 34)),
 mv 3 35,
 mv 4 36] [2, 3, 4])
 .ret))))))
def res_tree_top : List IRes := [⟨2, false, some (7, true)⟩, ⟨3, true, none⟩, ⟨4, true, none⟩]
theorem is_tree_top : fnIs Go.Proofs.Try.prog 73 37 res_tree_top ir_tree_top = true := by kernel_rfl
theorem tree_top_fn {f_0} {B0 B0_get_ : Nat} {s : Store} {Q : List AV → Store → Prop} (hB0 : s B0 = some (.cells [.int .i64 f_0.root_, .int .i64 f_0.count_, .fn 61 [] [.ref B0_get_ 0]])) (hB0_get_ : s B0_get_ = some (.cells [.sl false 6 f_0.get_.Objects.length (flat f_0.get_.Objects), .int .i64 f_0.get_.Root])) (nB0B0_get_ : B0 ≠ B0_get_) : ok (tree_top f_0) (fun r => Q [.agg [.int .i64 r.1.n_, .int .i64 r.1.v_.Kind, .int .i64 r.1.v_.N, .str r.1.v_.S.b, .sl false 4 r.1.v_.L.length (flat r.1.v_.L), .sl false 1 r.1.kids_.length (flat r.1.kids_), .int .i64 r.1.count_], .int .i64 r.2.1, .int .i64 r.2.2] s) → FN Go.Proofs.Try.prog 73 [.ref B0 0] s Q := by
  have hS : s = ((s.set B0 (.cells [.int .i64 f_0.root_, .int .i64 f_0.count_, .fn 61 [] [.ref B0_get_ 0]])).set B0_get_ (.cells [.sl false 6 f_0.get_.Objects.length (flat f_0.get_.Objects), .int .i64 f_0.get_.Root])) := by simp only [set_eq' hB0, set_eq' hB0_get_]
  rw [hS]
  intro h
  refine FN.of (draw_ok mix) is_tree_top rfl (Nat.le_of_ble_eq_true rfl) ?_
  revert h
  rw [ir_tree_top, res_tree_top, tree_top]
  repeat' (first
    | with_reducible exact tt_to
    | with_reducible refine and_to ?_ ?_
    | with_reducible refine im_to ?_
    | with_reducible refine call_to (fun _ (h : file_File_Root f_0 = some _) => file_File_Root_fe (B0 := B0) (B0_get_ := B0_get_) (by simp -implicitDefEqProofs only [go_sem, start, startE, resVs, resV, resC, allV, retK, Nat.reduceBEq, Nat.reduceAdd, Nat.reduceMul, Nat.reduceLeDiff, Nat.reduceEqDiff, Nat.reduceBNe, Nat.ble_eq, UInt8.reduceToNat, set_ne nB0B0_get_, set_ne nB0B0_get_.symm, set_comm nB0B0_get_]) (by simp -implicitDefEqProofs only [go_sem, start, startE, resVs, resV, resC, allV, retK, Nat.reduceBEq, Nat.reduceAdd, Nat.reduceMul, Nat.reduceLeDiff, Nat.reduceEqDiff, Nat.reduceBNe, Nat.ble_eq, UInt8.reduceToNat, set_ne nB0B0_get_, set_ne nB0B0_get_.symm, set_comm nB0B0_get_]) nB0B0_get_ h) (fun r1 => ?_)
    | with_reducible refine call_to_q (fun _ (h : file_File_Root f_0 = some _) => file_File_Root_fe (B0 := B0) (B0_get_ := B0_get_) (by simp -implicitDefEqProofs only [go_sem, start, startE, resVs, resV, resC, allV, retK, Nat.reduceBEq, Nat.reduceAdd, Nat.reduceMul, Nat.reduceLeDiff, Nat.reduceEqDiff, Nat.reduceBNe, Nat.ble_eq, UInt8.reduceToNat, set_ne nB0B0_get_, set_ne nB0B0_get_.symm, set_comm nB0B0_get_]) (by simp -implicitDefEqProofs only [go_sem, start, startE, resVs, resV, resC, allV, retK, Nat.reduceBEq, Nat.reduceAdd, Nat.reduceMul, Nat.reduceLeDiff, Nat.reduceEqDiff, Nat.reduceBNe, Nat.ble_eq, UInt8.reduceToNat, set_ne nB0B0_get_, set_ne nB0B0_get_.symm, set_comm nB0B0_get_]) nB0B0_get_ h) (fun _ => rfl) (fun r1 => ?_)
    | with_reducible refine call_to (fun _ (h : file_File_Get f_0 r1 = some _) => file_File_Get_fe (B0 := B0) (B0_get_ := B0_get_) (by simp -implicitDefEqProofs only [go_sem, start, startE, resVs, resV, resC, allV, retK, Nat.reduceBEq, Nat.reduceAdd, Nat.reduceMul, Nat.reduceLeDiff, Nat.reduceEqDiff, Nat.reduceBNe, Nat.ble_eq, UInt8.reduceToNat, set_ne nB0B0_get_, set_ne nB0B0_get_.symm, set_comm nB0B0_get_]) (by simp -implicitDefEqProofs only [go_sem, start, startE, resVs, resV, resC, allV, retK, Nat.reduceBEq, Nat.reduceAdd, Nat.reduceMul, Nat.reduceLeDiff, Nat.reduceEqDiff, Nat.reduceBNe, Nat.ble_eq, UInt8.reduceToNat, set_ne nB0B0_get_, set_ne nB0B0_get_.symm, set_comm nB0B0_get_]) nB0B0_get_ h) (fun r2 => ?_)
    | with_reducible refine call_to_q (fun _ (h : file_File_Get f_0 r1 = some _) => file_File_Get_fe (B0 := B0) (B0_get_ := B0_get_) (by simp -implicitDefEqProofs only [go_sem, start, startE, resVs, resV, resC, allV, retK, Nat.reduceBEq, Nat.reduceAdd, Nat.reduceMul, Nat.reduceLeDiff, Nat.reduceEqDiff, Nat.reduceBNe, Nat.ble_eq, UInt8.reduceToNat, set_ne nB0B0_get_, set_ne nB0B0_get_.symm, set_comm nB0B0_get_]) (by simp -implicitDefEqProofs only [go_sem, start, startE, resVs, resV, resC, allV, retK, Nat.reduceBEq, Nat.reduceAdd, Nat.reduceMul, Nat.reduceLeDiff, Nat.reduceEqDiff, Nat.reduceBNe, Nat.ble_eq, UInt8.reduceToNat, set_ne nB0B0_get_, set_ne nB0B0_get_.symm, set_comm nB0B0_get_]) nB0B0_get_ h) (fun _ => rfl) (fun r2 => ?_)
    | with_reducible refine call_to (fun _ (h : tree_Root r2.1 = some _) => tree_Root_fe h) (fun r3 => ?_)
    | with_reducible refine call_to_q (fun _ (h : tree_Root r2.1 = some _) => tree_Root_fe h) (fun _ => rfl) (fun r3 => ?_)
    | with_reducible refine call_to (fun _ (h : tree_Root r2.1 = some _) => (by refine FE_cast ?_ (tree_Root_fe h); simp -implicitDefEqProofs only [go_sem, start, startE, resVs, resV, resC, allV, retK, Nat.reduceBEq, Nat.reduceAdd, Nat.reduceMul, Nat.reduceLeDiff, Nat.reduceEqDiff, Nat.reduceBNe, Nat.ble_eq, UInt8.reduceToNat, set_ne nB0B0_get_, set_ne nB0B0_get_.symm, set_comm nB0B0_get_])) (fun r3 => ?_)
    | with_reducible refine call_to_q (fun _ (h : tree_Root r2.1 = some _) => (by refine FE_cast ?_ (tree_Root_fe h); simp -implicitDefEqProofs only [go_sem, start, startE, resVs, resV, resC, allV, retK, Nat.reduceBEq, Nat.reduceAdd, Nat.reduceMul, Nat.reduceLeDiff, Nat.reduceEqDiff, Nat.reduceBNe, Nat.ble_eq, UInt8.reduceToNat, set_ne nB0B0_get_, set_ne nB0B0_get_.symm, set_comm nB0B0_get_])) (fun _ => rfl) (fun r3 => ?_)
    | with_reducible refine call_to (fun _ (h : tree_ask f_0 r3.1 = some _) => tree_ask_fe (B0 := B0) (B0_get_ := B0_get_) (by simp -implicitDefEqProofs only [go_sem, start, startE, resVs, resV, resC, allV, retK, Nat.reduceBEq, Nat.reduceAdd, Nat.reduceMul, Nat.reduceLeDiff, Nat.reduceEqDiff, Nat.reduceBNe, Nat.ble_eq, UInt8.reduceToNat, set_ne nB0B0_get_, set_ne nB0B0_get_.symm, set_comm nB0B0_get_]) (by simp -implicitDefEqProofs only [go_sem, start, startE, resVs, resV, resC, allV, retK, Nat.reduceBEq, Nat.reduceAdd, Nat.reduceMul, Nat.reduceLeDiff, Nat.reduceEqDiff, Nat.reduceBNe, Nat.ble_eq, UInt8.reduceToNat, set_ne nB0B0_get_, set_ne nB0B0_get_.symm, set_comm nB0B0_get_]) nB0B0_get_ h) (fun r4 => ?_)
    | with_reducible refine call_to_q (fun _ (h : tree_ask f_0 r3.1 = some _) => tree_ask_fe (B0 := B0) (B0_get_ := B0_get_) (by simp -implicitDefEqProofs only [go_sem, start, startE, resVs, resV, resC, allV, retK, Nat.reduceBEq, Nat.reduceAdd, Nat.reduceMul, Nat.reduceLeDiff, Nat.reduceEqDiff, Nat.reduceBNe, Nat.ble_eq, UInt8.reduceToNat, set_ne nB0B0_get_, set_ne nB0B0_get_.symm, set_comm nB0B0_get_]) (by simp -implicitDefEqProofs only [go_sem, start, startE, resVs, resV, resC, allV, retK, Nat.reduceBEq, Nat.reduceAdd, Nat.reduceMul, Nat.reduceLeDiff, Nat.reduceEqDiff, Nat.reduceBNe, Nat.ble_eq, UInt8.reduceToNat, set_ne nB0B0_get_, set_ne nB0B0_get_.symm, set_comm nB0B0_get_]) nB0B0_get_ h) (fun _ => rfl) (fun r4 => ?_)
    | simp -implicitDefEqProofs only [go_sem, start, startE, resVs, resV, resC, allV, retK, Nat.reduceBEq, Nat.reduceAdd, Nat.reduceMul, Nat.reduceLeDiff, Nat.reduceEqDiff, Nat.reduceBNe, Nat.ble_eq, UInt8.reduceToNat, set_ne nB0B0_get_, set_ne nB0B0_get_.symm, set_comm nB0B0_get_])
theorem tree_top_fe {f_0} {B0 B0_get_ : Nat} {s : Store} {r : tree_node × Int × Int} (hB0 : s B0 = some (.cells [.int .i64 f_0.root_, .int .i64 f_0.count_, .fn 61 [] [.ref B0_get_ 0]])) (hB0_get_ : s B0_get_ = some (.cells [.sl false 6 f_0.get_.Objects.length (flat f_0.get_.Objects), .int .i64 f_0.get_.Root])) (nB0B0_get_ : B0 ≠ B0_get_) (h : tree_top f_0 = some r) : FE Go.Proofs.Try.prog 73 [.ref B0 0] s [.agg [.int .i64 r.1.n_, .int .i64 r.1.v_.Kind, .int .i64 r.1.v_.N, .str r.1.v_.S.b, .sl false 4 r.1.v_.L.length (flat r.1.v_.L), .sl false 1 r.1.kids_.length (flat r.1.kids_), .int .i64 r.1.count_], .int .i64 r.2.1, .int .i64 r.2.2] s := tree_top_fn hB0 hB0_get_ nB0B0_get_ ⟨r, h, rfl, rfl⟩
/-- catchword/tree.inherited -/
def tree_inherited  : Option ((List Str)) :=
  some [(Str.mk [82, 101, 115, 111, 117, 114, 99, 101, 115]), (Str.mk [77, 101, 100, 105, 97, 66, 111, 120]), (Str.mk [67, 114, 111, 112, 66, 111, 120]), (Str.mk [82, 111, 116, 97, 116, 101])]
def ir_tree_inherited : IC :=
 (.seq (.reg none [i1 0 (.mov true (.c (.sl true 1 0 [])))] [])
 (.seq (.reg none [i1 1 (.buildSl 1 4 [.str [], .str [], .str [], .str []] [(0, 1, (.c (.str [82, 101, 115, 111, 117, 114, 99, 101, 115]))), (1, 1, (.c (.str [77, 101, 100, 105, 97, 66, 111, 120]))), (2, 1, (.c (.str [67, 114, 111, 112, 66, 111, 120]))), (3, 1, (.c (.str [82, 111, 116, 97, 116, 101])))]),
 mt 0 1] [0])
 .ret))
def res_tree_inherited : List IRes := [⟨0, true, none⟩]
theorem is_tree_inherited : fnIs Go.Proofs.Try.prog 104 2 res_tree_inherited ir_tree_inherited = true := by kernel_rfl
theorem tree_inherited_fn  {s : Store} {Q : List AV → Store → Prop}  : ok (tree_inherited ) (fun r => Q [.sl true 1 r.length (flat r)] s) → FN Go.Proofs.Try.prog 104 [] s Q := by
  intro h
  refine FN.of (draw_ok mix) is_tree_inherited rfl (Nat.le_of_ble_eq_true rfl) ?_
  revert h
  rw [ir_tree_inherited, res_tree_inherited, tree_inherited]
  repeat' (first
    | with_reducible exact tt_to
    | with_reducible refine and_to ?_ ?_
    | with_reducible refine im_to ?_
    | simp -implicitDefEqProofs only [go_sem, start, startE, resVs, resV, resC, allV, retK, Nat.reduceBEq, Nat.reduceAdd, Nat.reduceMul, Nat.reduceLeDiff, Nat.reduceEqDiff, Nat.reduceBNe, Nat.ble_eq, UInt8.reduceToNat])
theorem tree_inherited_fe  {s : Store} {r : (List Str)}  (h : tree_inherited  = some r) : FE Go.Proofs.Try.prog 104 [] s [.sl true 1 r.length (flat r)] s := tree_inherited_fn   ⟨r, h, rfl, rfl⟩
/-- catchword/tree.give -/
def tree_give (given_0 : api_Value) (v_1 : api_Value) : Option (api_Value) :=
  jn (
    bnd (tree_inherited) fun r3 =>
    iter (fun ((given4, t5) : api_Value × Int) =>
      if decide (t5 < (r3.length : Int)) then
        jn (
          need (0 ≤ t5 ∧ t5 < r3.length) <|
          bnd (value_Get v_1 (ix r3 t5)) fun r14 =>
          if r14.2 then
            bnd (value_Put given4 (ix r3 t5) r14.1) fun r15 =>
            some r15
          else
            some given4) fun (given8 : api_Value) =>
        some (.inl (given8, w64 (t5 + 1)))
      else
        some (.inr given4)) (given_0, 0)) fun (given1 : api_Value) =>
  some given1
def ir_tree_give : IC :=
 (.seq (.reg none [i1 2 (.boxL 4 (.t 0)),
 i1 3 (.boxL 4 (.t 1)),
 i1 4 (.allocL [.int .i64 0, .int .i64 0, .str [], .sl true 4 0 []])] [2, 3, 4])
 (.join [(2, false), (4, false)] (.seq (.reg none [i1 9 (.call 104 []),
 i1 10 (.len 0 (.t 9)),
 i1 11 (.mov false (.c (.int .i64 0)))] [2, 3, 4, 9, 10, 11])
 (.block 0 (.loop [(2, false), (3, false), (4, false), (9, false), (10, false), (11, false)] (.seq (.reg none [i1 12 (.bin .lss (.t 11) (.t 10))] [2, 3, 4, 9, 10, 11, 12])
 (.seq (.cond (.t 12) .skip
 (.exit 0))
 (.join [(2, false), (3, false), (4, false), (9, false), (10, false), (11, false)] (.block 1 (.seq (.reg none [i1 13 (.indexAddr [.str []] (.t 9) (.t 11)),
 i1 14 (.load 1 false (.t 13)),
 mv 6 14] [2, 3, 4, 6, 9, 10, 11])
 (.seq (.reg none [i1 16 (.load 4 true (.t 3)),
 mv 17 6,
 i1 18 (.call 30 [(.t 16), (.t 17)]),
 i1 15 (.movT (.t 18)),
 i1 19 (.extract (.t 15) 0),
 i1 20 (.extract (.t 15) 1),
 i1 7 (.allocL [.int .i64 0, .int .i64 0, .str [], .sl true 4 0 []]),
 i0 (.store 4 (.t 7) (.t 19)),
 mv 8 20] [2, 3, 4, 6, 7, 8, 9, 10, 11])
 (.seq (.reg none [mv 21 8] [2, 3, 4, 6, 7, 9, 10, 11, 21])
 (.cond (.t 21) (.reg none [i1 22 (.load 4 true (.t 2)),
 mv 23 6,
 i1 24 (.load 4 true (.t 7)),
 i1 25 (.call 97 [(.t 22), (.t 23), (.t 24)]),
 i0 (.store 4 (.t 2) (.t 25))] [2, 3, 4, 9, 10, 11])
 .skip)))))
 (.reg none [i1 26 (.bin .add (.t 11) (.c (.int .i64 1))),
 mv 11 26] [2, 3, 4, 9, 10, 11])))))))
 (.seq (.reg none [i1 27 (.load 4 true (.t 2)),
 i0 (.store 4 (.t 4) (.t 27))] [4])
 .ret)))
def res_tree_give : List IRes := [⟨4, false, some (4, true)⟩]
theorem is_tree_give : fnIs Go.Proofs.Try.prog 74 28 res_tree_give ir_tree_give = true := by kernel_rfl
theorem tree_give_fn {given_0 v_1} {s : Store} {Q : List AV → Store → Prop}  : ok (tree_give given_0 v_1) (fun r => Q [.agg [.int .i64 r.Kind, .int .i64 r.N, .str r.S.b, .sl false 4 r.L.length (flat r.L)]] s) → FN Go.Proofs.Try.prog 74 [.agg [.int .i64 given_0.Kind, .int .i64 given_0.N, .str given_0.S.b, .sl false 4 given_0.L.length (flat given_0.L)], .agg [.int .i64 v_1.Kind, .int .i64 v_1.N, .str v_1.S.b, .sl false 4 v_1.L.length (flat v_1.L)]] s Q := by
  intro h
  refine FN.of (draw_ok mix) is_tree_give rfl (Nat.le_of_ble_eq_true rfl) ?_
  revert h
  rw [ir_tree_give, res_tree_give, tree_give]
  repeat' (first
    | with_reducible exact tt_to
    | with_reducible refine and_to ?_ ?_
    | with_reducible refine im_to ?_
    | with_reducible refine call_to (fun _ (h : tree_inherited = some _) => tree_inherited_fe h) (fun r3 => ?_)
    | with_reducible refine call_to_q (fun _ (h : tree_inherited = some _) => tree_inherited_fe h) (fun _ => rfl) (fun r3 => ?_)
    | with_reducible refine call_to (fun _ (h : tree_inherited = some _) => (by refine FE_cast ?_ (tree_inherited_fe h); simp -implicitDefEqProofs only [go_sem, start, startE, resVs, resV, resC, allV, retK, Nat.reduceBEq, Nat.reduceAdd, Nat.reduceMul, Nat.reduceLeDiff, Nat.reduceEqDiff, Nat.reduceBNe, Nat.ble_eq, UInt8.reduceToNat])) (fun r3 => ?_)
    | with_reducible refine call_to_q (fun _ (h : tree_inherited = some _) => (by refine FE_cast ?_ (tree_inherited_fe h); simp -implicitDefEqProofs only [go_sem, start, startE, resVs, resV, resC, allV, retK, Nat.reduceBEq, Nat.reduceAdd, Nat.reduceMul, Nat.reduceLeDiff, Nat.reduceEqDiff, Nat.reduceBNe, Nat.ble_eq, UInt8.reduceToNat])) (fun _ => rfl) (fun r3 => ?_)
    | with_reducible refine call_to (fun _ (h : value_Get v_1 (ix r3 t5) = some _) => value_Get_fe h) (fun r14 => ?_)
    | with_reducible refine call_to_q (fun _ (h : value_Get v_1 (ix r3 t5) = some _) => value_Get_fe h) (fun _ => rfl) (fun r14 => ?_)
    | with_reducible refine call_to (fun _ (h : value_Get v_1 (ix r3 t5) = some _) => (by refine FE_cast ?_ (value_Get_fe h); simp -implicitDefEqProofs only [go_sem, start, startE, resVs, resV, resC, allV, retK, Nat.reduceBEq, Nat.reduceAdd, Nat.reduceMul, Nat.reduceLeDiff, Nat.reduceEqDiff, Nat.reduceBNe, Nat.ble_eq, UInt8.reduceToNat])) (fun r14 => ?_)
    | with_reducible refine call_to_q (fun _ (h : value_Get v_1 (ix r3 t5) = some _) => (by refine FE_cast ?_ (value_Get_fe h); simp -implicitDefEqProofs only [go_sem, start, startE, resVs, resV, resC, allV, retK, Nat.reduceBEq, Nat.reduceAdd, Nat.reduceMul, Nat.reduceLeDiff, Nat.reduceEqDiff, Nat.reduceBNe, Nat.ble_eq, UInt8.reduceToNat])) (fun _ => rfl) (fun r14 => ?_)
    | with_reducible refine call_to (fun _ (h : value_Put given4 (ix r3 t5) r14.1 = some _) => value_Put_fe h) (fun r15 => ?_)
    | with_reducible refine call_to_q (fun _ (h : value_Put given4 (ix r3 t5) r14.1 = some _) => value_Put_fe h) (fun _ => rfl) (fun r15 => ?_)
    | with_reducible refine call_to (fun _ (h : value_Put given4 (ix r3 t5) r14.1 = some _) => (by refine FE_cast ?_ (value_Put_fe h); simp -implicitDefEqProofs only [go_sem, start, startE, resVs, resV, resC, allV, retK, Nat.reduceBEq, Nat.reduceAdd, Nat.reduceMul, Nat.reduceLeDiff, Nat.reduceEqDiff, Nat.reduceBNe, Nat.ble_eq, UInt8.reduceToNat])) (fun r15 => ?_)
    | with_reducible refine call_to_q (fun _ (h : value_Put given4 (ix r3 t5) r14.1 = some _) => (by refine FE_cast ?_ (value_Put_fe h); simp -implicitDefEqProofs only [go_sem, start, startE, resVs, resV, resC, allV, retK, Nat.reduceBEq, Nat.reduceAdd, Nat.reduceMul, Nat.reduceLeDiff, Nat.reduceEqDiff, Nat.reduceBNe, Nat.ble_eq, UInt8.reduceToNat])) (fun _ => rfl) (fun r15 => ?_)
    | ((with_reducible refine join_to (fun (given8 : api_Value) => ⟨[(2, .loc [.int .i64 given8.Kind, .int .i64 given8.N, .str given8.S.b, .sl false 4 given8.L.length (flat given8.L)]), (3, .loc [.int .i64 v_1.Kind, .int .i64 v_1.N, .str v_1.S.b, .sl false 4 v_1.L.length (flat v_1.L)]), (4, .loc [.int .i64 0, .int .i64 0, .str (Str.mk []).b, .sl true 4 ([] : List api_Value).length (flat ([] : List api_Value))]), (9, .sl true 1 r3.length (flat r3)), (10, .int .i64 (r3.length : Int)), (11, .int .i64 t5)], [], s⟩) (fun J => ?_) ?_); rotate_left; rintro given8)
    | ((with_reducible refine iter_to (fun ((given4, t5) : api_Value × Int) => ⟨[(2, .loc [.int .i64 given4.Kind, .int .i64 given4.N, .str given4.S.b, .sl false 4 given4.L.length (flat given4.L)]), (3, .loc [.int .i64 v_1.Kind, .int .i64 v_1.N, .str v_1.S.b, .sl false 4 v_1.L.length (flat v_1.L)]), (4, .loc [.int .i64 0, .int .i64 0, .str (Str.mk []).b, .sl true 4 ([] : List api_Value).length (flat ([] : List api_Value))]), (9, .sl true 1 r3.length (flat r3)), (10, .int .i64 (r3.length : Int)), (11, .int .i64 t5)], [], s⟩) ?_ ?_); (first | exact rfl | simp -implicitDefEqProofs only [go_sem, start, startE, resVs, resV, resC, allV, retK, Nat.reduceBEq, Nat.reduceAdd, Nat.reduceMul, Nat.reduceLeDiff, Nat.reduceEqDiff, Nat.reduceBNe, Nat.ble_eq, UInt8.reduceToNat]); rintro J ⟨given4, t5⟩)
    | ((with_reducible refine join_to (fun (given1 : api_Value) => ⟨[(2, .loc [.int .i64 given1.Kind, .int .i64 given1.N, .str given1.S.b, .sl false 4 given1.L.length (flat given1.L)]), (4, .loc [.int .i64 0, .int .i64 0, .str (Str.mk []).b, .sl true 4 ([] : List api_Value).length (flat ([] : List api_Value))])], [], s⟩) (fun J => ?_) ?_); rotate_left; rintro given1)
    | simp -implicitDefEqProofs only [go_sem, start, startE, resVs, resV, resC, allV, retK, Nat.reduceBEq, Nat.reduceAdd, Nat.reduceMul, Nat.reduceLeDiff, Nat.reduceEqDiff, Nat.reduceBNe, Nat.ble_eq, UInt8.reduceToNat])
theorem tree_give_fe {given_0 v_1} {s : Store} {r : api_Value}  (h : tree_give given_0 v_1 = some r) : FE Go.Proofs.Try.prog 74 [.agg [.int .i64 given_0.Kind, .int .i64 given_0.N, .str given_0.S.b, .sl false 4 given_0.L.length (flat given_0.L)], .agg [.int .i64 v_1.Kind, .int .i64 v_1.N, .str v_1.S.b, .sl false 4 v_1.L.length (flat v_1.L)]] s [.agg [.int .i64 r.Kind, .int .i64 r.N, .str r.S.b, .sl false 4 r.L.length (flat r.L)]] s := tree_give_fn   ⟨r, h, rfl, rfl⟩
/-- catchword/tree.Page -/
def tree_Page (o_0 : api_Object) : Option (Bool) :=
  bnd (tree_typed o_0 (Str.mk [80, 97, 103, 101])) fun r1 =>
  some r1
def ir_tree_Page : IC :=
 (.seq (.reg none [i1 1 (.boxL 6 (.t 0)),
 i1 2 (.mov false (.c (.bool false)))] [1])
 (.seq (.reg none [i1 3 (.load 6 true (.t 1)),
 i1 4 (.call 72 [(.t 3), (.c (.str [80, 97, 103, 101]))]),
 mv 2 4] [2])
 .ret))
def res_tree_Page : List IRes := [⟨2, true, none⟩]
theorem is_tree_Page : fnIs Go.Proofs.Try.prog 32 5 res_tree_Page ir_tree_Page = true := by kernel_rfl
theorem tree_Page_fn {o_0} {s : Store} {Q : List AV → Store → Prop}  : ok (tree_Page o_0) (fun r => Q [.bool r] s) → FN Go.Proofs.Try.prog 32 [.agg [.int .i64 o_0.V.Kind, .int .i64 o_0.V.N, .str o_0.V.S.b, .sl false 4 o_0.V.L.length (flat o_0.V.L), .bool o_0.Stream, .str o_0.Data.b]] s Q := by
  intro h
  refine FN.of (draw_ok mix) is_tree_Page rfl (Nat.le_of_ble_eq_true rfl) ?_
  revert h
  rw [ir_tree_Page, res_tree_Page, tree_Page]
  repeat' (first
    | with_reducible exact tt_to
    | with_reducible refine and_to ?_ ?_
    | with_reducible refine im_to ?_
    | with_reducible refine call_to (fun _ (h : tree_typed o_0 (Str.mk [80, 97, 103, 101]) = some _) => tree_typed_fe h) (fun r1 => ?_)
    | with_reducible refine call_to_q (fun _ (h : tree_typed o_0 (Str.mk [80, 97, 103, 101]) = some _) => tree_typed_fe h) (fun _ => rfl) (fun r1 => ?_)
    | with_reducible refine call_to (fun _ (h : tree_typed o_0 (Str.mk [80, 97, 103, 101]) = some _) => (by refine FE_cast ?_ (tree_typed_fe h); simp -implicitDefEqProofs only [go_sem, start, startE, resVs, resV, resC, allV, retK, Nat.reduceBEq, Nat.reduceAdd, Nat.reduceMul, Nat.reduceLeDiff, Nat.reduceEqDiff, Nat.reduceBNe, Nat.ble_eq, UInt8.reduceToNat])) (fun r1 => ?_)
    | with_reducible refine call_to_q (fun _ (h : tree_typed o_0 (Str.mk [80, 97, 103, 101]) = some _) => (by refine FE_cast ?_ (tree_typed_fe h); simp -implicitDefEqProofs only [go_sem, start, startE, resVs, resV, resC, allV, retK, Nat.reduceBEq, Nat.reduceAdd, Nat.reduceMul, Nat.reduceLeDiff, Nat.reduceEqDiff, Nat.reduceBNe, Nat.ble_eq, UInt8.reduceToNat])) (fun _ => rfl) (fun r1 => ?_)
    | simp -implicitDefEqProofs only [go_sem, start, startE, resVs, resV, resC, allV, retK, Nat.reduceBEq, Nat.reduceAdd, Nat.reduceMul, Nat.reduceLeDiff, Nat.reduceEqDiff, Nat.reduceBNe, Nat.ble_eq, UInt8.reduceToNat])
theorem tree_Page_fe {o_0} {s : Store} {r : Bool}  (h : tree_Page o_0 = some r) : FE Go.Proofs.Try.prog 32 [.agg [.int .i64 o_0.V.Kind, .int .i64 o_0.V.N, .str o_0.V.S.b, .sl false 4 o_0.V.L.length (flat o_0.V.L), .bool o_0.Stream, .str o_0.Data.b]] s [.bool r] s := tree_Page_fn   ⟨r, h, rfl, rfl⟩
structure tree_Leaf where
  Page : Int
  Path : (List Int)
  Given : api_Value
instance : Enc tree_Leaf := ⟨6, fun x => [.int .i64 x.Page, .sl false 1 x.Path.length (flat x.Path), .int .i64 x.Given.Kind, .int .i64 x.Given.N, .str x.Given.S.b, .sl false 4 x.Given.L.length (flat x.Given.L)], (tree_Leaf.mk 0 [] (api_Value.mk 0 0 (Str.mk []) [])), by decide, fun _ => rfl, fun _ => rfl⟩
@[go_sem] theorem cells_tree_Leaf (x : tree_Leaf) : Enc.cells x = [.int .i64 x.Page, .sl false 1 x.Path.length (flat x.Path), .int .i64 x.Given.Kind, .int .i64 x.Given.N, .str x.Given.S.b, .sl false 4 x.Given.L.length (flat x.Given.L)] := rfl
@[go_sem] theorem w_tree_Leaf : Enc.w tree_Leaf = 6 := rfl
@[go_sem] theorem pad_tree_Leaf (l : List tree_Leaf) (i : Int) : pad [.int .i64 0, .sl false 1 0 [], .int .i64 0, .int .i64 0, .str [], .sl false 4 0 []] (views (AB.sub (flat l) (i.toNat * 6) 6)) = [.int .i64 ((ix l i).Page), .sl false 1 ((ix l i).Path).length (flat ((ix l i).Path)), .int .i64 (((ix l i).Given).Kind), .int .i64 (((ix l i).Given).N), .str (((ix l i).Given).S).b, .sl false 4 (((ix l i).Given).L).length (flat (((ix l i).Given).L))] := by
  rw [← cells_tree_Leaf]; exact flat_pad _ 6 l i (by rw [cells_tree_Leaf]; rfl) rfl
@[go_sem] theorem mk_tree_Leaf (x : tree_Leaf) : tree_Leaf.mk x.Page x.Path x.Given = x := by cases x; rfl
/-- catchword/tree.leaf -/
def tree_leaf (n_0 : Int) (page_1 : api_Value) (path_2 : (List Int)) (given_3 : api_Value) : Option (tree_Leaf) :=
  jn (
    bnd (tree_inherited) fun r5 =>
    iter (fun ((given6, t7) : api_Value × Int) =>
      if decide (t7 < (r5.length : Int)) then
        jn (
          need (0 ≤ t7 ∧ t7 < r5.length) <|
          bnd (value_Get page_1 (ix r5 t7)) fun r20 =>
          if r20.2 then
            bnd (value_Drop given6 (ix r5 t7)) fun r21 =>
            some r21
          else
            some given6) fun (given15 : api_Value) =>
        some (.inl (given15, w64 (t7 + 1)))
      else
        some (.inr given6)) (given_3, 0)) fun (given3 : api_Value) =>
  some (tree_Leaf.mk n_0 path_2 given3)
def ir_tree_leaf : IC :=
 (.seq (.reg none [i1 5 (.boxL 4 (.t 1)),
 i1 7 (.boxL 4 (.t 3)),
 i1 8 (.allocL [.int .i64 0, .sl true 1 0 [], .int .i64 0, .int .i64 0, .str [], .sl true 4 0 []])] [0, 2, 5, 7, 8])
 (.join [(0, false), (2, true), (7, false), (8, false)] (.seq (.reg none [i1 13 (.call 104 []),
 i1 14 (.len 0 (.t 13)),
 i1 15 (.mov false (.c (.int .i64 0)))] [0, 2, 5, 7, 8, 13, 14, 15])
 (.block 0 (.loop [(0, false), (2, true), (5, false), (7, false), (8, false), (13, false), (14, false), (15, false)] (.seq (.reg none [i1 16 (.bin .lss (.t 15) (.t 14))] [0, 2, 5, 7, 8, 13, 14, 15, 16])
 (.seq (.cond (.t 16) .skip
 (.exit 0))
 (.join [(0, false), (2, true), (5, false), (7, false), (8, false), (13, false), (14, false), (15, false)] (.block 1 (.seq (.reg none [i1 17 (.indexAddr [.str []] (.t 13) (.t 15)),
 i1 18 (.load 1 false (.t 17)),
 mv 10 18] [0, 2, 5, 7, 8, 10, 13, 14, 15])
 (.seq (.reg none [i1 20 (.load 4 true (.t 5)),
 mv 21 10,
 i1 22 (.call 30 [(.t 20), (.t 21)]),
 i1 19 (.movT (.t 22)),
 i1 23 (.extract (.t 19) 0),
 i1 24 (.extract (.t 19) 1),
 i1 11 (.allocL [.int .i64 0, .int .i64 0, .str [], .sl true 4 0 []]),
 i0 (.store 4 (.t 11) (.t 23)),
 mv 12 24] [0, 2, 5, 7, 8, 10, 12, 13, 14, 15])
 (.seq (.reg none [mv 25 12] [0, 2, 5, 7, 8, 10, 13, 14, 15, 25])
 (.cond (.t 25) (.reg none [i1 26 (.load 4 true (.t 7)),
 mv 27 10,
 i1 28 (.call 24 [(.t 26), (.t 27)]),
 i0 (.store 4 (.t 7) (.t 28))] [0, 2, 5, 7, 8, 13, 14, 15])
 .skip)))))
 (.reg none [i1 29 (.bin .add (.t 15) (.c (.int .i64 1))),
 mv 15 29] [0, 2, 5, 7, 8, 13, 14, 15])))))))
 (.seq (.reg none [mv 30 0,
 mt 31 2,
 i1 32 (.load 4 true (.t 7)),
 i1 33 (.build [.int .i64 0, .sl true 1 0 [], .int .i64 0, .int .i64 0, .str [], .sl true 4 0 []] [(0, 1, (.t 30)), (1, 1, (.t 31)), (2, 4, (.t 32))]),
 i0 (.store 6 (.t 8) (.t 33))] [8])
 .ret)))
def res_tree_leaf : List IRes := [⟨8, false, some (6, true)⟩]
theorem is_tree_leaf : fnIs Go.Proofs.Try.prog 75 34 res_tree_leaf ir_tree_leaf = true := by kernel_rfl
theorem tree_leaf_fn {n_0 page_1 path_2 given_3} {s : Store} {Q : List AV → Store → Prop}  : ok (tree_leaf n_0 page_1 path_2 given_3) (fun r => Q [.agg [.int .i64 r.Page, .sl false 1 r.Path.length (flat r.Path), .int .i64 r.Given.Kind, .int .i64 r.Given.N, .str r.Given.S.b, .sl false 4 r.Given.L.length (flat r.Given.L)]] s) → FN Go.Proofs.Try.prog 75 [.int .i64 n_0, .agg [.int .i64 page_1.Kind, .int .i64 page_1.N, .str page_1.S.b, .sl false 4 page_1.L.length (flat page_1.L)], .sl false 1 path_2.length (flat path_2), .agg [.int .i64 given_3.Kind, .int .i64 given_3.N, .str given_3.S.b, .sl false 4 given_3.L.length (flat given_3.L)]] s Q := by
  intro h
  refine FN.of (draw_ok mix) is_tree_leaf rfl (Nat.le_of_ble_eq_true rfl) ?_
  revert h
  rw [ir_tree_leaf, res_tree_leaf, tree_leaf]
  repeat' (first
    | with_reducible exact tt_to
    | with_reducible refine and_to ?_ ?_
    | with_reducible refine im_to ?_
    | with_reducible refine call_to (fun _ (h : tree_inherited = some _) => tree_inherited_fe h) (fun r5 => ?_)
    | with_reducible refine call_to_q (fun _ (h : tree_inherited = some _) => tree_inherited_fe h) (fun _ => rfl) (fun r5 => ?_)
    | with_reducible refine call_to (fun _ (h : tree_inherited = some _) => (by refine FE_cast ?_ (tree_inherited_fe h); simp -implicitDefEqProofs only [go_sem, start, startE, resVs, resV, resC, allV, retK, Nat.reduceBEq, Nat.reduceAdd, Nat.reduceMul, Nat.reduceLeDiff, Nat.reduceEqDiff, Nat.reduceBNe, Nat.ble_eq, UInt8.reduceToNat])) (fun r5 => ?_)
    | with_reducible refine call_to_q (fun _ (h : tree_inherited = some _) => (by refine FE_cast ?_ (tree_inherited_fe h); simp -implicitDefEqProofs only [go_sem, start, startE, resVs, resV, resC, allV, retK, Nat.reduceBEq, Nat.reduceAdd, Nat.reduceMul, Nat.reduceLeDiff, Nat.reduceEqDiff, Nat.reduceBNe, Nat.ble_eq, UInt8.reduceToNat])) (fun _ => rfl) (fun r5 => ?_)
    | with_reducible refine call_to (fun _ (h : value_Get page_1 (ix r5 t7) = some _) => value_Get_fe h) (fun r20 => ?_)
    | with_reducible refine call_to_q (fun _ (h : value_Get page_1 (ix r5 t7) = some _) => value_Get_fe h) (fun _ => rfl) (fun r20 => ?_)
    | with_reducible refine call_to (fun _ (h : value_Get page_1 (ix r5 t7) = some _) => (by refine FE_cast ?_ (value_Get_fe h); simp -implicitDefEqProofs only [go_sem, start, startE, resVs, resV, resC, allV, retK, Nat.reduceBEq, Nat.reduceAdd, Nat.reduceMul, Nat.reduceLeDiff, Nat.reduceEqDiff, Nat.reduceBNe, Nat.ble_eq, UInt8.reduceToNat])) (fun r20 => ?_)
    | with_reducible refine call_to_q (fun _ (h : value_Get page_1 (ix r5 t7) = some _) => (by refine FE_cast ?_ (value_Get_fe h); simp -implicitDefEqProofs only [go_sem, start, startE, resVs, resV, resC, allV, retK, Nat.reduceBEq, Nat.reduceAdd, Nat.reduceMul, Nat.reduceLeDiff, Nat.reduceEqDiff, Nat.reduceBNe, Nat.ble_eq, UInt8.reduceToNat])) (fun _ => rfl) (fun r20 => ?_)
    | with_reducible refine call_to (fun _ (h : value_Drop given6 (ix r5 t7) = some _) => value_Drop_fe h) (fun r21 => ?_)
    | with_reducible refine call_to_q (fun _ (h : value_Drop given6 (ix r5 t7) = some _) => value_Drop_fe h) (fun _ => rfl) (fun r21 => ?_)
    | with_reducible refine call_to (fun _ (h : value_Drop given6 (ix r5 t7) = some _) => (by refine FE_cast ?_ (value_Drop_fe h); simp -implicitDefEqProofs only [go_sem, start, startE, resVs, resV, resC, allV, retK, Nat.reduceBEq, Nat.reduceAdd, Nat.reduceMul, Nat.reduceLeDiff, Nat.reduceEqDiff, Nat.reduceBNe, Nat.ble_eq, UInt8.reduceToNat])) (fun r21 => ?_)
    | with_reducible refine call_to_q (fun _ (h : value_Drop given6 (ix r5 t7) = some _) => (by refine FE_cast ?_ (value_Drop_fe h); simp -implicitDefEqProofs only [go_sem, start, startE, resVs, resV, resC, allV, retK, Nat.reduceBEq, Nat.reduceAdd, Nat.reduceMul, Nat.reduceLeDiff, Nat.reduceEqDiff, Nat.reduceBNe, Nat.ble_eq, UInt8.reduceToNat])) (fun _ => rfl) (fun r21 => ?_)
    | ((with_reducible refine join_to (fun (given15 : api_Value) => ⟨[(0, .int .i64 n_0), (2, .sl false 1 path_2.length (flat path_2)), (5, .loc [.int .i64 page_1.Kind, .int .i64 page_1.N, .str page_1.S.b, .sl false 4 page_1.L.length (flat page_1.L)]), (7, .loc [.int .i64 given15.Kind, .int .i64 given15.N, .str given15.S.b, .sl false 4 given15.L.length (flat given15.L)]), (8, .loc [.int .i64 0, .sl true 1 ([] : List Int).length (flat ([] : List Int)), .int .i64 0, .int .i64 0, .str (Str.mk []).b, .sl true 4 ([] : List api_Value).length (flat ([] : List api_Value))]), (13, .sl true 1 r5.length (flat r5)), (14, .int .i64 (r5.length : Int)), (15, .int .i64 t7)], [], s⟩) (fun J => ?_) ?_); rotate_left; rintro given15)
    | ((with_reducible refine iter_to (fun ((given6, t7) : api_Value × Int) => ⟨[(0, .int .i64 n_0), (2, .sl false 1 path_2.length (flat path_2)), (5, .loc [.int .i64 page_1.Kind, .int .i64 page_1.N, .str page_1.S.b, .sl false 4 page_1.L.length (flat page_1.L)]), (7, .loc [.int .i64 given6.Kind, .int .i64 given6.N, .str given6.S.b, .sl false 4 given6.L.length (flat given6.L)]), (8, .loc [.int .i64 0, .sl true 1 ([] : List Int).length (flat ([] : List Int)), .int .i64 0, .int .i64 0, .str (Str.mk []).b, .sl true 4 ([] : List api_Value).length (flat ([] : List api_Value))]), (13, .sl true 1 r5.length (flat r5)), (14, .int .i64 (r5.length : Int)), (15, .int .i64 t7)], [], s⟩) ?_ ?_); (first | exact rfl | simp -implicitDefEqProofs only [go_sem, start, startE, resVs, resV, resC, allV, retK, Nat.reduceBEq, Nat.reduceAdd, Nat.reduceMul, Nat.reduceLeDiff, Nat.reduceEqDiff, Nat.reduceBNe, Nat.ble_eq, UInt8.reduceToNat]); rintro J ⟨given6, t7⟩)
    | ((with_reducible refine join_to (fun (given3 : api_Value) => ⟨[(0, .int .i64 n_0), (2, .sl false 1 path_2.length (flat path_2)), (7, .loc [.int .i64 given3.Kind, .int .i64 given3.N, .str given3.S.b, .sl false 4 given3.L.length (flat given3.L)]), (8, .loc [.int .i64 0, .sl true 1 ([] : List Int).length (flat ([] : List Int)), .int .i64 0, .int .i64 0, .str (Str.mk []).b, .sl true 4 ([] : List api_Value).length (flat ([] : List api_Value))])], [], s⟩) (fun J => ?_) ?_); rotate_left; rintro given3)
    | simp -implicitDefEqProofs only [go_sem, start, startE, resVs, resV, resC, allV, retK, Nat.reduceBEq, Nat.reduceAdd, Nat.reduceMul, Nat.reduceLeDiff, Nat.reduceEqDiff, Nat.reduceBNe, Nat.ble_eq, UInt8.reduceToNat])
theorem tree_leaf_fe {n_0 page_1 path_2 given_3} {s : Store} {r : tree_Leaf}  (h : tree_leaf n_0 page_1 path_2 given_3 = some r) : FE Go.Proofs.Try.prog 75 [.int .i64 n_0, .agg [.int .i64 page_1.Kind, .int .i64 page_1.N, .str page_1.S.b, .sl false 4 page_1.L.length (flat page_1.L)], .sl false 1 path_2.length (flat path_2), .agg [.int .i64 given_3.Kind, .int .i64 given_3.N, .str given_3.S.b, .sl false 4 given_3.L.length (flat given_3.L)]] s [.agg [.int .i64 r.Page, .sl false 1 r.Path.length (flat r.Path), .int .i64 r.Given.Kind, .int .i64 r.Given.N, .str r.Given.S.b, .sl false 4 r.Given.L.length (flat r.Given.L)]] s := tree_leaf_fn   ⟨r, h, rfl, rfl⟩
/-- catchword/tree.Find -/
def tree_Find (f_0 : file_File) (p_1 : Int) : Option (tree_Leaf × Int × Int) :=
  bnd (tree_top f_0) fun r1 =>
  if r1.2.2 != 0 then
    some ((tree_Leaf.mk 0 ([] : List Int) (api_Value.mk 0 0 (Str.mk []) ([] : List api_Value))), r1.2.1, r1.2.2)
  else
    if (decide (p_1 < 0)) || (decide (p_1 ≥ r1.1.count_)) then
      some ((tree_Leaf.mk 0 ([] : List Int) (api_Value.mk 0 0 (Str.mk []) ([] : List api_Value))), 0, 25)
    else
      bnd (value_DictOf ([] : List api_Value)) fun r2 =>
      jnS (
        bndS (
          iter (fun ((p9, x10, path11, given12, t13) : Int × tree_node × (List Int) × api_Value × Int) =>
            if decide (t13 < 64) then
              jnS (
                need ((path11.length + [x10.n_].length) * 8 ≤ room) <|
                bnd (tree_give given12 x10.v_) fun r31 =>
                if x10.count_ == (x10.kids_.length : Int) then
                  need (0 ≤ p9 ∧ p9 < x10.kids_.length) <|
                  bnd (file_File_Get f_0 (ix x10.kids_ p9)) fun r32 =>
                  if r32.2.2 != 0 then
                    some (.inr ((tree_Leaf.mk 0 ([] : List Int) (api_Value.mk 0 0 (Str.mk []) ([] : List api_Value))), r32.2.1, r32.2.2))
                  else
                    bnd (tree_Page r32.1) fun r33 =>
                    if r33 then
                      bnd (tree_leaf (ix x10.kids_ p9) r32.1.V (path11 ++ [x10.n_]) r31) fun r34 =>
                      some (.inr (r34, (0 : Int), (0 : Int)))
                    else
                      bnd (tree_nodeOf (ix x10.kids_ p9) r32.1) fun r35 =>
                      if !r35.2 || (r35.1.count_ != 1) then
                        some (.inr ((tree_Leaf.mk 0 ([] : List Int) (api_Value.mk 0 0 (Str.mk []) ([] : List api_Value))), (0 : Int), (24 : Int)))
                      else
                        some (.inl (0, r35.1, path11 ++ [x10.n_], r31))
                else
                  jnS (
                    bndS (
                      iter (fun ((p49, t50) : Int × Int) =>
                        if decide (t50 < (x10.kids_.length : Int)) then
                          need (0 ≤ t50 ∧ t50 < x10.kids_.length) <|
                          bnd (tree_ask f_0 (ix x10.kids_ t50)) fun r64 =>
                          if r64.2.2 != 0 then
                            some (.inr (.inr (.inr (r64.2.1, r64.2.2))))
                          else
                            if decide (p49 < r64.1.count_) then
                              some (.inr (.inl (p49, r64.1)))
                            else
                              some (.inl (w64 (p49 - r64.1.count_), w64 (t50 + 1)))
                        else
                          some (.inr (.inr (.inl ())))) (p9, 0)) (fun ((p51, x53) : Int × tree_node) =>
                      some (.inr (.inl (p51, x53))))
                    (caseS (fun (_ : Unit) => some (.inl ())) (fun ((t61, t62) : Int × Int) => some (.inr (.inr (t61, t62)))))) (fun (_ : Unit) =>
                    some (.inr ((tree_Leaf.mk 0 ([] : List Int) (api_Value.mk 0 0 (Str.mk []) ([] : List api_Value))), (0 : Int), (24 : Int))))
                  (caseS (fun ((p38, x40) : Int × tree_node) => some (.inl (p38, x40, path11 ++ [x10.n_], r31))) (fun ((t46, t47) : Int × Int) => some (.inr ((tree_Leaf.mk 0 ([] : List Int) (api_Value.mk 0 0 (Str.mk []) ([] : List api_Value))), t46, t47))))) (fun ((p20, x22, path23, given24) : Int × tree_node × (List Int) × api_Value) =>
                some (.inl (p20, x22, path23, given24, w64 (t13 + 1))))
              (fun ((t27, t28, t29) : tree_Leaf × Int × Int) => some (.inr (.inr (t27, t28, t29))))
            else
              some (.inr (.inl ()))) (p_1, r1.1, ([] : List Int), r2, 0)) (fun (_ : Unit) =>
          some (.inl ()))
        (fun ((t16, t17, t18) : tree_Leaf × Int × Int) => some (.inr (t16, t17, t18)))) (fun (_ : Unit) =>
        some ((tree_Leaf.mk 0 ([] : List Int) (api_Value.mk 0 0 (Str.mk []) ([] : List api_Value))), 0, 24))
      (fun ((t5, t6, t7) : tree_Leaf × Int × Int) => some (t5, t6, t7))
def ir_tree_Find : IC :=
 (.seq (.reg none [i1 4 (.allocL [.int .i64 0, .sl true 1 0 [], .int .i64 0, .int .i64 0, .str [], .sl true 4 0 []]),
 i1 5 (.mov false (.c (.int .i64 0))),
 i1 6 (.mov false (.c (.int .i64 0)))] [0, 1, 4])
 (.scope (.seq (.reg none [mv 24 0,
 i1 25 (.call 73 [(.t 24)]),
 i1 23 (.movT (.t 25)),
 i1 26 (.extract (.t 23) 0),
 i1 27 (.extract (.t 23) 1),
 i1 28 (.extract (.t 23) 2),
 i1 7 (.allocL [.int .i64 0, .int .i64 0, .int .i64 0, .str [], .sl true 4 0 [], .sl true 1 0 [], .int .i64 0]),
 i0 (.store 7 (.t 7) (.t 26)),
 mv 8 27,
 mv 9 28] [0, 1, 4, 7, 8, 9])
 (.seq (.block 0 (.seq (.reg none [mv 30 9,
 i1 31 (.bin .neq (.t 30) (.c (.int .i64 0))),
 mv 29 31] [0, 1, 4, 7, 8, 9, 29])
 (.cond (.t 29) (.seq (.reg none [i1 32 (.build [.int .i64 0, .sl true 1 0 [], .int .i64 0, .int .i64 0, .str [], .sl true 4 0 []] []),
 mv 33 8,
 mv 34 9,
 i0 (.store 6 (.t 4) (.t 32)),
 mv 5 33,
 mv 6 34] [4, 5, 6])
 .ret)
 (.seq (.reg none [mv 36 1,
 i1 37 (.bin .lss (.t 36) (.c (.int .i64 0))),
 mv 38 37,
 mvg 39 1 38 false,
 i1g 40 38 false (.fieldAddr 6 (.t 7)),
 i1g 41 38 false (.load 1 false (.t 40)),
 i1g 42 38 false (.bin .geq (.t 39) (.t 41)),
 i1 43 (.pick (.t 38) (.c (.bool true)) (.t 42)),
 mv 35 43] [0, 1, 4, 7, 35])
 (.cond (.t 35) (.seq (.reg none [i1 44 (.build [.int .i64 0, .sl true 1 0 [], .int .i64 0, .int .i64 0, .str [], .sl true 4 0 []] []),
 i0 (.store 6 (.t 4) (.t 44)),
 i1 5 (.mov false (.c (.int .i64 0))),
 i1 6 (.mov false (.c (.int .i64 25)))] [4, 5, 6])
 .ret)
 .skip)))))
 (.seq (.reg none [i1 10 (.mov true (.c (.sl true 1 0 [])))] [0, 1, 4, 7, 10])
 (.seq (.reg none [i1 45 (.call 53 [(.c (.sl true 4 0 []))]),
 i1 11 (.allocL [.int .i64 0, .int .i64 0, .str [], .sl true 4 0 []]),
 i0 (.store 4 (.t 11) (.t 45))] [0, 1, 4, 7, 10, 11])
 (.seq (.label 0)
 (.join [(4, false)] (.seq (.reg none [i1 46 (.mov false (.c (.int .i64 0)))] [0, 1, 4, 7, 10, 11, 46])
 (.block 1 (.loop [(0, false), (1, false), (4, false), (7, false), (10, false), (11, false), (46, false)] (.seq (.reg none [i1 47 (.bin .lss (.t 46) (.c (.int .i64 64)))] [0, 1, 4, 7, 10, 11, 46, 47])
 (.seq (.cond (.t 47) .skip
 (.exit 1))
 (.join [(0, false), (1, false), (4, false), (7, false), (10, false), (11, false), (46, false)] (.block 2 (.seq (.regT [11] 11 [mt 48 10,
 i1 49 (.fieldAddr 0 (.t 7)),
 i1 50 (.load 1 false (.t 49)),
 i1 51 (.buildSl 1 1 [.int .i64 0] [(0, 1, (.t 50))]),
 i1 52 (.append 1 8 (.t 48) (.t 51)),
 i1 53 (.load 4 true (.t 11)),
 i1 54 (.fieldAddr 1 (.t 7)),
 i1 55 (.load 4 true (.t 54)),
 i1 56 (.call 74 [(.t 53), (.t 55)]),
 mt 10 52,
 i0 (.store 4 (.t 11) (.t 56))] [0, 1, 4, 7, 10, 11, 46])
 (.seq (.seq (.reg none [i1 57 (.fieldAddr 6 (.t 7)),
 i1 58 (.load 1 false (.t 57)),
 i1 59 (.fieldAddr 5 (.t 7)),
 i1 60 (.load 1 false (.t 59)),
 i1 61 (.len 0 (.t 60)),
 i1 62 (.bin .eql (.t 58) (.t 61))] [0, 1, 4, 7, 10, 11, 46, 62])
 (.cond (.t 62) (.seq (.reg none [i1 63 (.fieldAddr 5 (.t 7)),
 i1 64 (.load 1 false (.t 63)),
 mv 65 1,
 i1 66 (.indexAddr [.int .i64 0] (.t 64) (.t 65)),
 i1 67 (.load 1 false (.t 66)),
 mv 12 67] [0, 4, 7, 10, 11, 12, 46])
 (.seq (.reg none [mv 69 0,
 mv 70 12,
 i1 71 (.call 34 [(.t 69), (.t 70)]),
 i1 68 (.movT (.t 71)),
 i1 72 (.extract (.t 68) 0),
 i1 73 (.extract (.t 68) 1),
 i1 74 (.extract (.t 68) 2),
 i1 13 (.allocL [.int .i64 0, .int .i64 0, .str [], .sl true 4 0 [], .bool false, .str []]),
 i0 (.store 6 (.t 13) (.t 72)),
 mv 14 73,
 mv 15 74] [0, 4, 7, 10, 11, 12, 13, 14, 15, 46])
 (.seq (.block 3 (.seq (.reg none [mv 76 15,
 i1 77 (.bin .neq (.t 76) (.c (.int .i64 0))),
 mv 75 77] [0, 4, 7, 10, 11, 12, 13, 14, 15, 46, 75])
 (.cond (.t 75) (.seq (.reg none [i1 78 (.build [.int .i64 0, .sl true 1 0 [], .int .i64 0, .int .i64 0, .str [], .sl true 4 0 []] []),
 mv 79 14,
 mv 80 15,
 i0 (.store 6 (.t 4) (.t 78)),
 mv 5 79,
 mv 6 80] [4, 5, 6])
 .ret)
 (.seq (.reg none [i1 82 (.load 6 true (.t 13)),
 i1 83 (.call 32 [(.t 82)]),
 mv 81 83] [0, 4, 7, 10, 11, 12, 13, 46, 81])
 (.cond (.t 81) (.seq (.reg none [mv 84 12,
 i1 85 (.fieldAddr 0 (.t 13)),
 i1 86 (.load 4 true (.t 85)),
 mt 87 10,
 i1 88 (.load 4 true (.t 11)),
 i1 89 (.call 75 [(.t 84), (.t 86), (.t 87), (.t 88)]),
 i0 (.store 6 (.t 4) (.t 89)),
 i1 5 (.mov false (.c (.int .i64 0))),
 i1 6 (.mov false (.c (.int .i64 0)))] [4, 5, 6])
 .ret)
 .skip)))))
 (.seq (.reg none [mv 91 12,
 i1 92 (.load 6 true (.t 13)),
 i1 93 (.call 70 [(.t 91), (.t 92)]),
 i1 90 (.movT (.t 93)),
 i1 94 (.extract (.t 90) 0),
 i1 95 (.extract (.t 90) 1),
 i1 16 (.allocL [.int .i64 0, .int .i64 0, .int .i64 0, .str [], .sl true 4 0 [], .sl true 1 0 [], .int .i64 0]),
 i0 (.store 7 (.t 16) (.t 94)),
 mv 17 95] [0, 4, 7, 10, 11, 16, 17, 46])
 (.seq (.seq (.reg none [mv 96 17,
 i1 97 (.un .not (.t 96)),
 mv 98 97,
 i1g 99 98 false (.fieldAddr 6 (.t 16)),
 i1g 100 98 false (.load 1 false (.t 99)),
 i1g 101 98 false (.bin .neq (.t 100) (.c (.int .i64 1))),
 i1 102 (.pick (.t 98) (.c (.bool true)) (.t 101))] [0, 4, 7, 10, 11, 16, 46, 102])
 (.cond (.t 102) (.seq (.reg none [i1 103 (.build [.int .i64 0, .sl true 1 0 [], .int .i64 0, .int .i64 0, .str [], .sl true 4 0 []] []),
 i0 (.store 6 (.t 4) (.t 103)),
 i1 5 (.mov false (.c (.int .i64 0))),
 i1 6 (.mov false (.c (.int .i64 24)))] [4, 5, 6])
 .ret)
 .skip))
 (.seq (.reg none [i1 104 (.load 7 true (.t 16)),
 i0 (.store 7 (.t 7) (.t 104)),
 i1 1 (.mov false (.c (.int .i64 0)))] [0, 1, 4, 7, 10, 11, 46])
 (.exit 2)))))))
 .skip))
 (.join [(4, false)] (.seq (.reg none [i1 105 (.fieldAddr 5 (.t 7)),
 i1 106 (.load 1 false (.t 105)),
 i1 107 (.len 0 (.t 106)),
 i1 108 (.mov false (.c (.int .i64 0)))] [0, 1, 4, 7, 10, 11, 46, 106, 107, 108])
 (.block 4 (.loop [(0, false), (1, false), (4, false), (7, false), (10, false), (11, false), (46, false), (106, true), (107, false), (108, false)] (.seq (.reg none [i1 109 (.bin .lss (.t 108) (.t 107))] [0, 1, 4, 7, 10, 11, 46, 106, 107, 108, 109])
 (.seq (.cond (.t 109) .skip
 (.exit 4))
 (.seq (.block 5 (.seq (.reg none [i1 110 (.indexAddr [.int .i64 0] (.t 106) (.t 108)),
 i1 111 (.load 1 false (.t 110)),
 mv 19 111] [0, 1, 4, 7, 10, 11, 19, 46, 106, 107, 108])
 (.seq (.reg none [mv 113 0,
 mv 114 19,
 i1 115 (.call 76 [(.t 113), (.t 114)]),
 i1 112 (.movT (.t 115)),
 i1 116 (.extract (.t 112) 0),
 i1 117 (.extract (.t 112) 1),
 i1 118 (.extract (.t 112) 2),
 i1 20 (.allocL [.int .i64 0, .int .i64 0, .int .i64 0, .str [], .sl true 4 0 [], .sl true 1 0 [], .int .i64 0]),
 i0 (.store 7 (.t 20) (.t 116)),
 mv 21 117,
 mv 22 118] [0, 1, 4, 7, 10, 11, 20, 21, 22, 46, 106, 107, 108])
 (.seq (.seq (.reg none [mv 119 22,
 i1 120 (.bin .neq (.t 119) (.c (.int .i64 0)))] [0, 1, 4, 7, 10, 11, 20, 21, 22, 46, 106, 107, 108, 120])
 (.cond (.t 120) (.seq (.reg none [i1 121 (.build [.int .i64 0, .sl true 1 0 [], .int .i64 0, .int .i64 0, .str [], .sl true 4 0 []] []),
 mv 122 21,
 mv 123 22,
 i0 (.store 6 (.t 4) (.t 121)),
 mv 5 122,
 mv 6 123] [4, 5, 6])
 .ret)
 .skip))
 (.seq (.seq (.reg none [mv 124 1,
 i1 125 (.fieldAddr 6 (.t 20)),
 i1 126 (.load 1 false (.t 125)),
 i1 127 (.bin .lss (.t 124) (.t 126))] [0, 1, 4, 7, 10, 11, 20, 46, 106, 107, 108, 127])
 (.cond (.t 127) (.seq (.reg none [i1 128 (.load 7 true (.t 20)),
 i0 (.store 7 (.t 7) (.t 128))] [0, 1, 4, 7, 10, 11, 46])
 (.exit 2))
 .skip))
 (.reg none [mv 129 1,
 i1 130 (.fieldAddr 6 (.t 20)),
 i1 131 (.load 1 false (.t 130)),
 i1 132 (.bin .sub (.t 129) (.t 131)),
 mv 1 132] [0, 1, 4, 7, 10, 11, 46, 106, 107, 108]))))))
 (.reg none [i1 133 (.bin .add (.t 108) (.c (.int .i64 1))),
 mv 108 133] [0, 1, 4, 7, 10, 11, 46, 106, 107, 108])))))))
 (.seq (.reg none [i1 134 (.build [.int .i64 0, .sl true 1 0 [], .int .i64 0, .int .i64 0, .str [], .sl true 4 0 []] []),
 i0 (.store 6 (.t 4) (.t 134)),
 i1 5 (.mov false (.c (.int .i64 0))),
 i1 6 (.mov false (.c (.int .i64 24)))] [4, 5, 6])
 .ret)))))
 (.reg none [i1 135 (.bin .add (.t 46) (.c (.int .i64 1))),
 mv 46 135] [0, 1, 4, 7, 10, 11, 46])))))))
 (.seq (.reg none [i1 136 (.build [.int .i64 0, .sl true 1 0 [], .int .i64 0, .int .i64 0, .str [], .sl true 4 0 []] []),
 i0 (.store 6 (.t 4) (.t 136)),
 i1 5 (.mov false (.c (.int .i64 0))),
 i1 6 (.mov false (.c (.int .i64 24)))] [4, 5, 6])
 .ret)))))))))
def res_tree_Find : List IRes := [⟨4, false, some (6, true)⟩, ⟨5, true, none⟩, ⟨6, true, none⟩]
theorem is_tree_Find : fnIs Go.Proofs.Try.prog 33 137 res_tree_Find ir_tree_Find = true := by kernel_rfl
theorem tree_Find_fn {f_0 p_1} {B0 B0_get_ : Nat} {s : Store} {Q : List AV → Store → Prop} (hB0 : s B0 = some (.cells [.int .i64 f_0.root_, .int .i64 f_0.count_, .fn 61 [] [.ref B0_get_ 0]])) (hB0_get_ : s B0_get_ = some (.cells [.sl false 6 f_0.get_.Objects.length (flat f_0.get_.Objects), .int .i64 f_0.get_.Root])) (nB0B0_get_ : B0 ≠ B0_get_) : ok (tree_Find f_0 p_1) (fun r => Q [.agg [.int .i64 r.1.Page, .sl false 1 r.1.Path.length (flat r.1.Path), .int .i64 r.1.Given.Kind, .int .i64 r.1.Given.N, .str r.1.Given.S.b, .sl false 4 r.1.Given.L.length (flat r.1.Given.L)], .int .i64 r.2.1, .int .i64 r.2.2] s) → FN Go.Proofs.Try.prog 33 [.ref B0 0, .int .i64 p_1] s Q := by
  have hS : s = ((s.set B0 (.cells [.int .i64 f_0.root_, .int .i64 f_0.count_, .fn 61 [] [.ref B0_get_ 0]])).set B0_get_ (.cells [.sl false 6 f_0.get_.Objects.length (flat f_0.get_.Objects), .int .i64 f_0.get_.Root])) := by simp only [set_eq' hB0, set_eq' hB0_get_]
  rw [hS]
  intro h
  refine FN.of (draw_ok mix) is_tree_Find rfl (Nat.le_of_ble_eq_true rfl) ?_
  revert h
  rw [ir_tree_Find, res_tree_Find, tree_Find]
  repeat' (first
    | with_reducible exact tt_to
    | ((with_reducible refine b_to ?_ ?_); exact rfl)
    | ((with_reducible refine n_to ?_ ?_); exact rfl)
    | with_reducible refine and_to ?_ ?_
    | with_reducible refine im_to ?_
    | with_reducible refine call_to (fun _ (h : tree_top f_0 = some _) => tree_top_fe (B0 := B0) (B0_get_ := B0_get_) (by simp -implicitDefEqProofs only [go_sem, start, startE, resVs, resV, resC, allV, retK, Nat.reduceBEq, Nat.reduceAdd, Nat.reduceMul, Nat.reduceLeDiff, Nat.reduceEqDiff, Nat.reduceBNe, Nat.ble_eq, UInt8.reduceToNat, set_ne nB0B0_get_, set_ne nB0B0_get_.symm, set_comm nB0B0_get_]) (by simp -implicitDefEqProofs only [go_sem, start, startE, resVs, resV, resC, allV, retK, Nat.reduceBEq, Nat.reduceAdd, Nat.reduceMul, Nat.reduceLeDiff, Nat.reduceEqDiff, Nat.reduceBNe, Nat.ble_eq, UInt8.reduceToNat, set_ne nB0B0_get_, set_ne nB0B0_get_.symm, set_comm nB0B0_get_]) nB0B0_get_ h) (fun r1 => ?_)
    | with_reducible refine call_to_q (fun _ (h : tree_top f_0 = some _) => tree_top_fe (B0 := B0) (B0_get_ := B0_get_) (by simp -implicitDefEqProofs only [go_sem, start, startE, resVs, resV, resC, allV, retK, Nat.reduceBEq, Nat.reduceAdd, Nat.reduceMul, Nat.reduceLeDiff, Nat.reduceEqDiff, Nat.reduceBNe, Nat.ble_eq, UInt8.reduceToNat, set_ne nB0B0_get_, set_ne nB0B0_get_.symm, set_comm nB0B0_get_]) (by simp -implicitDefEqProofs only [go_sem, start, startE, resVs, resV, resC, allV, retK, Nat.reduceBEq, Nat.reduceAdd, Nat.reduceMul, Nat.reduceLeDiff, Nat.reduceEqDiff, Nat.reduceBNe, Nat.ble_eq, UInt8.reduceToNat, set_ne nB0B0_get_, set_ne nB0B0_get_.symm, set_comm nB0B0_get_]) nB0B0_get_ h) (fun _ => rfl) (fun r1 => ?_)
    | with_reducible refine call_to (fun _ (h : value_DictOf ([] : List api_Value) = some _) => value_DictOf_fe h) (fun r2 => ?_)
    | with_reducible refine call_to_q (fun _ (h : value_DictOf ([] : List api_Value) = some _) => value_DictOf_fe h) (fun _ => rfl) (fun r2 => ?_)
    | with_reducible refine call_to (fun _ (h : value_DictOf ([] : List api_Value) = some _) => (by refine FE_cast ?_ (value_DictOf_fe h); simp -implicitDefEqProofs only [go_sem, start, startE, resVs, resV, resC, allV, retK, Nat.reduceBEq, Nat.reduceAdd, Nat.reduceMul, Nat.reduceLeDiff, Nat.reduceEqDiff, Nat.reduceBNe, Nat.ble_eq, UInt8.reduceToNat, set_ne nB0B0_get_, set_ne nB0B0_get_.symm, set_comm nB0B0_get_])) (fun r2 => ?_)
    | with_reducible refine call_to_q (fun _ (h : value_DictOf ([] : List api_Value) = some _) => (by refine FE_cast ?_ (value_DictOf_fe h); simp -implicitDefEqProofs only [go_sem, start, startE, resVs, resV, resC, allV, retK, Nat.reduceBEq, Nat.reduceAdd, Nat.reduceMul, Nat.reduceLeDiff, Nat.reduceEqDiff, Nat.reduceBNe, Nat.ble_eq, UInt8.reduceToNat, set_ne nB0B0_get_, set_ne nB0B0_get_.symm, set_comm nB0B0_get_])) (fun _ => rfl) (fun r2 => ?_)
    | with_reducible refine call_to (fun _ (h : tree_give given12 x10.v_ = some _) => tree_give_fe h) (fun r31 => ?_)
    | with_reducible refine call_to_q (fun _ (h : tree_give given12 x10.v_ = some _) => tree_give_fe h) (fun _ => rfl) (fun r31 => ?_)
    | with_reducible refine call_to (fun _ (h : tree_give given12 x10.v_ = some _) => (by refine FE_cast ?_ (tree_give_fe h); simp -implicitDefEqProofs only [go_sem, start, startE, resVs, resV, resC, allV, retK, Nat.reduceBEq, Nat.reduceAdd, Nat.reduceMul, Nat.reduceLeDiff, Nat.reduceEqDiff, Nat.reduceBNe, Nat.ble_eq, UInt8.reduceToNat, set_ne nB0B0_get_, set_ne nB0B0_get_.symm, set_comm nB0B0_get_])) (fun r31 => ?_)
    | with_reducible refine call_to_q (fun _ (h : tree_give given12 x10.v_ = some _) => (by refine FE_cast ?_ (tree_give_fe h); simp -implicitDefEqProofs only [go_sem, start, startE, resVs, resV, resC, allV, retK, Nat.reduceBEq, Nat.reduceAdd, Nat.reduceMul, Nat.reduceLeDiff, Nat.reduceEqDiff, Nat.reduceBNe, Nat.ble_eq, UInt8.reduceToNat, set_ne nB0B0_get_, set_ne nB0B0_get_.symm, set_comm nB0B0_get_])) (fun _ => rfl) (fun r31 => ?_)
    | with_reducible refine call_to (fun _ (h : file_File_Get f_0 (ix x10.kids_ p9) = some _) => file_File_Get_fe (B0 := B0) (B0_get_ := B0_get_) (by simp -implicitDefEqProofs only [go_sem, start, startE, resVs, resV, resC, allV, retK, Nat.reduceBEq, Nat.reduceAdd, Nat.reduceMul, Nat.reduceLeDiff, Nat.reduceEqDiff, Nat.reduceBNe, Nat.ble_eq, UInt8.reduceToNat, set_ne nB0B0_get_, set_ne nB0B0_get_.symm, set_comm nB0B0_get_]) (by simp -implicitDefEqProofs only [go_sem, start, startE, resVs, resV, resC, allV, retK, Nat.reduceBEq, Nat.reduceAdd, Nat.reduceMul, Nat.reduceLeDiff, Nat.reduceEqDiff, Nat.reduceBNe, Nat.ble_eq, UInt8.reduceToNat, set_ne nB0B0_get_, set_ne nB0B0_get_.symm, set_comm nB0B0_get_]) nB0B0_get_ h) (fun r32 => ?_)
    | with_reducible refine call_to_q (fun _ (h : file_File_Get f_0 (ix x10.kids_ p9) = some _) => file_File_Get_fe (B0 := B0) (B0_get_ := B0_get_) (by simp -implicitDefEqProofs only [go_sem, start, startE, resVs, resV, resC, allV, retK, Nat.reduceBEq, Nat.reduceAdd, Nat.reduceMul, Nat.reduceLeDiff, Nat.reduceEqDiff, Nat.reduceBNe, Nat.ble_eq, UInt8.reduceToNat, set_ne nB0B0_get_, set_ne nB0B0_get_.symm, set_comm nB0B0_get_]) (by simp -implicitDefEqProofs only [go_sem, start, startE, resVs, resV, resC, allV, retK, Nat.reduceBEq, Nat.reduceAdd, Nat.reduceMul, Nat.reduceLeDiff, Nat.reduceEqDiff, Nat.reduceBNe, Nat.ble_eq, UInt8.reduceToNat, set_ne nB0B0_get_, set_ne nB0B0_get_.symm, set_comm nB0B0_get_]) nB0B0_get_ h) (fun _ => rfl) (fun r32 => ?_)
    | with_reducible refine call_to (fun _ (h : tree_Page r32.1 = some _) => tree_Page_fe h) (fun r33 => ?_)
    | with_reducible refine call_to_q (fun _ (h : tree_Page r32.1 = some _) => tree_Page_fe h) (fun _ => rfl) (fun r33 => ?_)
    | with_reducible refine call_to (fun _ (h : tree_Page r32.1 = some _) => (by refine FE_cast ?_ (tree_Page_fe h); simp -implicitDefEqProofs only [go_sem, start, startE, resVs, resV, resC, allV, retK, Nat.reduceBEq, Nat.reduceAdd, Nat.reduceMul, Nat.reduceLeDiff, Nat.reduceEqDiff, Nat.reduceBNe, Nat.ble_eq, UInt8.reduceToNat, set_ne nB0B0_get_, set_ne nB0B0_get_.symm, set_comm nB0B0_get_])) (fun r33 => ?_)
    | with_reducible refine call_to_q (fun _ (h : tree_Page r32.1 = some _) => (by refine FE_cast ?_ (tree_Page_fe h); simp -implicitDefEqProofs only [go_sem, start, startE, resVs, resV, resC, allV, retK, Nat.reduceBEq, Nat.reduceAdd, Nat.reduceMul, Nat.reduceLeDiff, Nat.reduceEqDiff, Nat.reduceBNe, Nat.ble_eq, UInt8.reduceToNat, set_ne nB0B0_get_, set_ne nB0B0_get_.symm, set_comm nB0B0_get_])) (fun _ => rfl) (fun r33 => ?_)
    | with_reducible refine call_to (fun _ (h : tree_leaf (ix x10.kids_ p9) r32.1.V (path11 ++ [x10.n_]) r31 = some _) => tree_leaf_fe h) (fun r34 => ?_)
    | with_reducible refine call_to_q (fun _ (h : tree_leaf (ix x10.kids_ p9) r32.1.V (path11 ++ [x10.n_]) r31 = some _) => tree_leaf_fe h) (fun _ => rfl) (fun r34 => ?_)
    | with_reducible refine call_to (fun _ (h : tree_leaf (ix x10.kids_ p9) r32.1.V (path11 ++ [x10.n_]) r31 = some _) => (by refine FE_cast ?_ (tree_leaf_fe h); simp -implicitDefEqProofs only [go_sem, start, startE, resVs, resV, resC, allV, retK, Nat.reduceBEq, Nat.reduceAdd, Nat.reduceMul, Nat.reduceLeDiff, Nat.reduceEqDiff, Nat.reduceBNe, Nat.ble_eq, UInt8.reduceToNat, set_ne nB0B0_get_, set_ne nB0B0_get_.symm, set_comm nB0B0_get_])) (fun r34 => ?_)
    | with_reducible refine call_to_q (fun _ (h : tree_leaf (ix x10.kids_ p9) r32.1.V (path11 ++ [x10.n_]) r31 = some _) => (by refine FE_cast ?_ (tree_leaf_fe h); simp -implicitDefEqProofs only [go_sem, start, startE, resVs, resV, resC, allV, retK, Nat.reduceBEq, Nat.reduceAdd, Nat.reduceMul, Nat.reduceLeDiff, Nat.reduceEqDiff, Nat.reduceBNe, Nat.ble_eq, UInt8.reduceToNat, set_ne nB0B0_get_, set_ne nB0B0_get_.symm, set_comm nB0B0_get_])) (fun _ => rfl) (fun r34 => ?_)
    | with_reducible refine call_to (fun _ (h : tree_nodeOf (ix x10.kids_ p9) r32.1 = some _) => tree_nodeOf_fe h) (fun r35 => ?_)
    | with_reducible refine call_to_q (fun _ (h : tree_nodeOf (ix x10.kids_ p9) r32.1 = some _) => tree_nodeOf_fe h) (fun _ => rfl) (fun r35 => ?_)
    | with_reducible refine call_to (fun _ (h : tree_nodeOf (ix x10.kids_ p9) r32.1 = some _) => (by refine FE_cast ?_ (tree_nodeOf_fe h); simp -implicitDefEqProofs only [go_sem, start, startE, resVs, resV, resC, allV, retK, Nat.reduceBEq, Nat.reduceAdd, Nat.reduceMul, Nat.reduceLeDiff, Nat.reduceEqDiff, Nat.reduceBNe, Nat.ble_eq, UInt8.reduceToNat, set_ne nB0B0_get_, set_ne nB0B0_get_.symm, set_comm nB0B0_get_])) (fun r35 => ?_)
    | with_reducible refine call_to_q (fun _ (h : tree_nodeOf (ix x10.kids_ p9) r32.1 = some _) => (by refine FE_cast ?_ (tree_nodeOf_fe h); simp -implicitDefEqProofs only [go_sem, start, startE, resVs, resV, resC, allV, retK, Nat.reduceBEq, Nat.reduceAdd, Nat.reduceMul, Nat.reduceLeDiff, Nat.reduceEqDiff, Nat.reduceBNe, Nat.ble_eq, UInt8.reduceToNat, set_ne nB0B0_get_, set_ne nB0B0_get_.symm, set_comm nB0B0_get_])) (fun _ => rfl) (fun r35 => ?_)
    | with_reducible refine call_to (fun _ (h : tree_ask f_0 (ix x10.kids_ t50) = some _) => tree_ask_fe (B0 := B0) (B0_get_ := B0_get_) (by simp -implicitDefEqProofs only [go_sem, start, startE, resVs, resV, resC, allV, retK, Nat.reduceBEq, Nat.reduceAdd, Nat.reduceMul, Nat.reduceLeDiff, Nat.reduceEqDiff, Nat.reduceBNe, Nat.ble_eq, UInt8.reduceToNat, set_ne nB0B0_get_, set_ne nB0B0_get_.symm, set_comm nB0B0_get_]) (by simp -implicitDefEqProofs only [go_sem, start, startE, resVs, resV, resC, allV, retK, Nat.reduceBEq, Nat.reduceAdd, Nat.reduceMul, Nat.reduceLeDiff, Nat.reduceEqDiff, Nat.reduceBNe, Nat.ble_eq, UInt8.reduceToNat, set_ne nB0B0_get_, set_ne nB0B0_get_.symm, set_comm nB0B0_get_]) nB0B0_get_ h) (fun r64 => ?_)
    | with_reducible refine call_to_q (fun _ (h : tree_ask f_0 (ix x10.kids_ t50) = some _) => tree_ask_fe (B0 := B0) (B0_get_ := B0_get_) (by simp -implicitDefEqProofs only [go_sem, start, startE, resVs, resV, resC, allV, retK, Nat.reduceBEq, Nat.reduceAdd, Nat.reduceMul, Nat.reduceLeDiff, Nat.reduceEqDiff, Nat.reduceBNe, Nat.ble_eq, UInt8.reduceToNat, set_ne nB0B0_get_, set_ne nB0B0_get_.symm, set_comm nB0B0_get_]) (by simp -implicitDefEqProofs only [go_sem, start, startE, resVs, resV, resC, allV, retK, Nat.reduceBEq, Nat.reduceAdd, Nat.reduceMul, Nat.reduceLeDiff, Nat.reduceEqDiff, Nat.reduceBNe, Nat.ble_eq, UInt8.reduceToNat, set_ne nB0B0_get_, set_ne nB0B0_get_.symm, set_comm nB0B0_get_]) nB0B0_get_ h) (fun _ => rfl) (fun r64 => ?_)
    | ((with_reducible refine iter_to (fun ((p49, t50) : Int × Int) => ⟨[(0, .ref B0 0), (1, .int .i64 p49), (4, .loc [.int .i64 0, .sl true 1 ([] : List Int).length (flat ([] : List Int)), .int .i64 0, .int .i64 0, .str (Str.mk []).b, .sl true 4 ([] : List api_Value).length (flat ([] : List api_Value))]), (7, .loc [.int .i64 x10.n_, .int .i64 x10.v_.Kind, .int .i64 x10.v_.N, .str x10.v_.S.b, .sl false 4 x10.v_.L.length (flat x10.v_.L), .sl false 1 x10.kids_.length (flat x10.kids_), .int .i64 x10.count_]), (10, .sl true 1 (path11 ++ [x10.n_]).length (flat (path11 ++ [x10.n_]))), (11, .loc [.int .i64 r31.Kind, .int .i64 r31.N, .str r31.S.b, .sl false 4 r31.L.length (flat r31.L)]), (46, .int .i64 t13), (106, .sl false 1 x10.kids_.length (flat x10.kids_)), (107, .int .i64 (x10.kids_.length : Int)), (108, .int .i64 t50)], [], ((s.set B0 (.cells [.int .i64 f_0.root_, .int .i64 f_0.count_, .fn 61 [] [.ref B0_get_ 0]])).set B0_get_ (.cells [.sl false 6 f_0.get_.Objects.length (flat f_0.get_.Objects), .int .i64 f_0.get_.Root]))⟩) ?_ ?_); (first | exact rfl | simp -implicitDefEqProofs only [go_sem, start, startE, resVs, resV, resC, allV, retK, Nat.reduceBEq, Nat.reduceAdd, Nat.reduceMul, Nat.reduceLeDiff, Nat.reduceEqDiff, Nat.reduceBNe, Nat.ble_eq, UInt8.reduceToNat, set_ne nB0B0_get_, set_ne nB0B0_get_.symm, set_comm nB0B0_get_]); rintro J ⟨p49, t50⟩)
    | ((with_reducible refine join_toS (fun (_ : Unit) => ⟨[(4, .loc [.int .i64 0, .sl true 1 ([] : List Int).length (flat ([] : List Int)), .int .i64 0, .int .i64 0, .str (Str.mk []).b, .sl true 4 ([] : List api_Value).length (flat ([] : List api_Value))])], [], ((s.set B0 (.cells [.int .i64 f_0.root_, .int .i64 f_0.count_, .fn 61 [] [.ref B0_get_ 0]])).set B0_get_ (.cells [.sl false 6 f_0.get_.Objects.length (flat f_0.get_.Objects), .int .i64 f_0.get_.Root]))⟩) (fun J => ?_) ?_); rotate_left; rintro _)
    | ((with_reducible refine join_toS (fun ((p20, x22, path23, given24) : Int × tree_node × (List Int) × api_Value) => ⟨[(0, .ref B0 0), (1, .int .i64 p20), (4, .loc [.int .i64 0, .sl true 1 ([] : List Int).length (flat ([] : List Int)), .int .i64 0, .int .i64 0, .str (Str.mk []).b, .sl true 4 ([] : List api_Value).length (flat ([] : List api_Value))]), (7, .loc [.int .i64 x22.n_, .int .i64 x22.v_.Kind, .int .i64 x22.v_.N, .str x22.v_.S.b, .sl false 4 x22.v_.L.length (flat x22.v_.L), .sl false 1 x22.kids_.length (flat x22.kids_), .int .i64 x22.count_]), (10, .sl true 1 path23.length (flat path23)), (11, .loc [.int .i64 given24.Kind, .int .i64 given24.N, .str given24.S.b, .sl false 4 given24.L.length (flat given24.L)]), (46, .int .i64 t13)], [], ((s.set B0 (.cells [.int .i64 f_0.root_, .int .i64 f_0.count_, .fn 61 [] [.ref B0_get_ 0]])).set B0_get_ (.cells [.sl false 6 f_0.get_.Objects.length (flat f_0.get_.Objects), .int .i64 f_0.get_.Root]))⟩) (fun J => ?_) ?_); rotate_left; rintro ⟨p20, x22, path23, given24⟩)
    | ((with_reducible refine iter_to (fun ((p9, x10, path11, given12, t13) : Int × tree_node × (List Int) × api_Value × Int) => ⟨[(0, .ref B0 0), (1, .int .i64 p9), (4, .loc [.int .i64 0, .sl true 1 ([] : List Int).length (flat ([] : List Int)), .int .i64 0, .int .i64 0, .str (Str.mk []).b, .sl true 4 ([] : List api_Value).length (flat ([] : List api_Value))]), (7, .loc [.int .i64 x10.n_, .int .i64 x10.v_.Kind, .int .i64 x10.v_.N, .str x10.v_.S.b, .sl false 4 x10.v_.L.length (flat x10.v_.L), .sl false 1 x10.kids_.length (flat x10.kids_), .int .i64 x10.count_]), (10, .sl true 1 path11.length (flat path11)), (11, .loc [.int .i64 given12.Kind, .int .i64 given12.N, .str given12.S.b, .sl false 4 given12.L.length (flat given12.L)]), (46, .int .i64 t13)], [], ((s.set B0 (.cells [.int .i64 f_0.root_, .int .i64 f_0.count_, .fn 61 [] [.ref B0_get_ 0]])).set B0_get_ (.cells [.sl false 6 f_0.get_.Objects.length (flat f_0.get_.Objects), .int .i64 f_0.get_.Root]))⟩) ?_ ?_); (first | exact rfl | simp -implicitDefEqProofs only [go_sem, start, startE, resVs, resV, resC, allV, retK, Nat.reduceBEq, Nat.reduceAdd, Nat.reduceMul, Nat.reduceLeDiff, Nat.reduceEqDiff, Nat.reduceBNe, Nat.ble_eq, UInt8.reduceToNat, set_ne nB0B0_get_, set_ne nB0B0_get_.symm, set_comm nB0B0_get_]); rintro J ⟨p9, x10, path11, given12, t13⟩)
    | ((with_reducible refine join_toS (fun (_ : Unit) => ⟨[(4, .loc [.int .i64 0, .sl true 1 ([] : List Int).length (flat ([] : List Int)), .int .i64 0, .int .i64 0, .str (Str.mk []).b, .sl true 4 ([] : List api_Value).length (flat ([] : List api_Value))])], [], ((s.set B0 (.cells [.int .i64 f_0.root_, .int .i64 f_0.count_, .fn 61 [] [.ref B0_get_ 0]])).set B0_get_ (.cells [.sl false 6 f_0.get_.Objects.length (flat f_0.get_.Objects), .int .i64 f_0.get_.Root]))⟩) (fun J => ?_) ?_); rotate_left; rintro _)
    | simp -implicitDefEqProofs only [go_sem, start, startE, resVs, resV, resC, allV, retK, Nat.reduceBEq, Nat.reduceAdd, Nat.reduceMul, Nat.reduceLeDiff, Nat.reduceEqDiff, Nat.reduceBNe, Nat.ble_eq, UInt8.reduceToNat, set_ne nB0B0_get_, set_ne nB0B0_get_.symm, set_comm nB0B0_get_])
theorem tree_Find_fe {f_0 p_1} {B0 B0_get_ : Nat} {s : Store} {r : tree_Leaf × Int × Int} (hB0 : s B0 = some (.cells [.int .i64 f_0.root_, .int .i64 f_0.count_, .fn 61 [] [.ref B0_get_ 0]])) (hB0_get_ : s B0_get_ = some (.cells [.sl false 6 f_0.get_.Objects.length (flat f_0.get_.Objects), .int .i64 f_0.get_.Root])) (nB0B0_get_ : B0 ≠ B0_get_) (h : tree_Find f_0 p_1 = some r) : FE Go.Proofs.Try.prog 33 [.ref B0 0, .int .i64 p_1] s [.agg [.int .i64 r.1.Page, .sl false 1 r.1.Path.length (flat r.1.Path), .int .i64 r.1.Given.Kind, .int .i64 r.1.Given.N, .str r.1.Given.S.b, .sl false 4 r.1.Given.L.length (flat r.1.Given.L)], .int .i64 r.2.1, .int .i64 r.2.2] s := tree_Find_fn hB0 hB0_get_ nB0B0_get_ ⟨r, h, rfl, rfl⟩
/-- catchword/tree.Pages -/
def tree_Pages (f_0 : file_File) : Option (Int × Int × Int) :=
  bnd (tree_top f_0) fun r1 =>
  some (r1.1.count_, r1.2.1, r1.2.2)
def ir_tree_Pages : IC :=
 (.seq (.reg none [i1 2 (.mov false (.c (.int .i64 0))),
 i1 3 (.mov false (.c (.int .i64 0))),
 i1 4 (.mov false (.c (.int .i64 0)))] [0])
 (.seq (.reg none [mv 9 0,
 i1 10 (.call 73 [(.t 9)]),
 i1 8 (.movT (.t 10)),
 i1 11 (.extract (.t 8) 0),
 i1 12 (.extract (.t 8) 1),
 i1 13 (.extract (.t 8) 2),
 i1 5 (.allocL [.int .i64 0, .int .i64 0, .int .i64 0, .str [], .sl true 4 0 [], .sl true 1 0 [], .int .i64 0]),
 i0 (.store 7 (.t 5) (.t 11)),
 mv 6 12,
 mv 7 13] [5, 6, 7])
 (.seq (.reg none [i1 14 (.fieldAddr 6 (.t 5)),
 i1 15 (.load 1 false (.t 14)),
 mv 16 6,
 mv 17 7,
 mv 2 15,
 mv 3 16,
 mv 4 17] [2, 3, 4])
 .ret)))
def res_tree_Pages : List IRes := [⟨2, true, none⟩, ⟨3, true, none⟩, ⟨4, true, none⟩]
theorem is_tree_Pages : fnIs Go.Proofs.Try.prog 68 18 res_tree_Pages ir_tree_Pages = true := by kernel_rfl
theorem tree_Pages_fn {f_0} {B0 B0_get_ : Nat} {s : Store} {Q : List AV → Store → Prop} (hB0 : s B0 = some (.cells [.int .i64 f_0.root_, .int .i64 f_0.count_, .fn 61 [] [.ref B0_get_ 0]])) (hB0_get_ : s B0_get_ = some (.cells [.sl false 6 f_0.get_.Objects.length (flat f_0.get_.Objects), .int .i64 f_0.get_.Root])) (nB0B0_get_ : B0 ≠ B0_get_) : ok (tree_Pages f_0) (fun r => Q [.int .i64 r.1, .int .i64 r.2.1, .int .i64 r.2.2] s) → FN Go.Proofs.Try.prog 68 [.ref B0 0] s Q := by
  have hS : s = ((s.set B0 (.cells [.int .i64 f_0.root_, .int .i64 f_0.count_, .fn 61 [] [.ref B0_get_ 0]])).set B0_get_ (.cells [.sl false 6 f_0.get_.Objects.length (flat f_0.get_.Objects), .int .i64 f_0.get_.Root])) := by simp only [set_eq' hB0, set_eq' hB0_get_]
  rw [hS]
  intro h
  refine FN.of (draw_ok mix) is_tree_Pages rfl (Nat.le_of_ble_eq_true rfl) ?_
  revert h
  rw [ir_tree_Pages, res_tree_Pages, tree_Pages]
  repeat' (first
    | with_reducible exact tt_to
    | with_reducible refine and_to ?_ ?_
    | with_reducible refine im_to ?_
    | with_reducible refine call_to (fun _ (h : tree_top f_0 = some _) => tree_top_fe (B0 := B0) (B0_get_ := B0_get_) (by simp -implicitDefEqProofs only [go_sem, start, startE, resVs, resV, resC, allV, retK, Nat.reduceBEq, Nat.reduceAdd, Nat.reduceMul, Nat.reduceLeDiff, Nat.reduceEqDiff, Nat.reduceBNe, Nat.ble_eq, UInt8.reduceToNat, set_ne nB0B0_get_, set_ne nB0B0_get_.symm, set_comm nB0B0_get_]) (by simp -implicitDefEqProofs only [go_sem, start, startE, resVs, resV, resC, allV, retK, Nat.reduceBEq, Nat.reduceAdd, Nat.reduceMul, Nat.reduceLeDiff, Nat.reduceEqDiff, Nat.reduceBNe, Nat.ble_eq, UInt8.reduceToNat, set_ne nB0B0_get_, set_ne nB0B0_get_.symm, set_comm nB0B0_get_]) nB0B0_get_ h) (fun r1 => ?_)
    | with_reducible refine call_to_q (fun _ (h : tree_top f_0 = some _) => tree_top_fe (B0 := B0) (B0_get_ := B0_get_) (by simp -implicitDefEqProofs only [go_sem, start, startE, resVs, resV, resC, allV, retK, Nat.reduceBEq, Nat.reduceAdd, Nat.reduceMul, Nat.reduceLeDiff, Nat.reduceEqDiff, Nat.reduceBNe, Nat.ble_eq, UInt8.reduceToNat, set_ne nB0B0_get_, set_ne nB0B0_get_.symm, set_comm nB0B0_get_]) (by simp -implicitDefEqProofs only [go_sem, start, startE, resVs, resV, resC, allV, retK, Nat.reduceBEq, Nat.reduceAdd, Nat.reduceMul, Nat.reduceLeDiff, Nat.reduceEqDiff, Nat.reduceBNe, Nat.ble_eq, UInt8.reduceToNat, set_ne nB0B0_get_, set_ne nB0B0_get_.symm, set_comm nB0B0_get_]) nB0B0_get_ h) (fun _ => rfl) (fun r1 => ?_)
    | simp -implicitDefEqProofs only [go_sem, start, startE, resVs, resV, resC, allV, retK, Nat.reduceBEq, Nat.reduceAdd, Nat.reduceMul, Nat.reduceLeDiff, Nat.reduceEqDiff, Nat.reduceBNe, Nat.ble_eq, UInt8.reduceToNat, set_ne nB0B0_get_, set_ne nB0B0_get_.symm, set_comm nB0B0_get_])
theorem tree_Pages_fe {f_0} {B0 B0_get_ : Nat} {s : Store} {r : Int × Int × Int} (hB0 : s B0 = some (.cells [.int .i64 f_0.root_, .int .i64 f_0.count_, .fn 61 [] [.ref B0_get_ 0]])) (hB0_get_ : s B0_get_ = some (.cells [.sl false 6 f_0.get_.Objects.length (flat f_0.get_.Objects), .int .i64 f_0.get_.Root])) (nB0B0_get_ : B0 ≠ B0_get_) (h : tree_Pages f_0 = some r) : FE Go.Proofs.Try.prog 68 [.ref B0 0] s [.int .i64 r.1, .int .i64 r.2.1, .int .i64 r.2.2] s := tree_Pages_fn hB0 hB0_get_ nB0B0_get_ ⟨r, h, rfl, rfl⟩
/-- catchword/tree.Leaves -/
def tree_Leaves (f_0 : file_File) : Option ((List tree_Leaf) × Int × Int) :=
  bnd (tree_Pages f_0) fun r1 =>
  if r1.2.2 != 0 then
    some (([] : List tree_Leaf), r1.2.1, r1.2.2)
  else
    jnS (
      bndS (
        iter (fun ((out8, t9) : (List tree_Leaf) × Int) =>
          if decide (t9 < r1.1) then
            bnd (tree_Find f_0 t9) fun r16 =>
            if r16.2.2 != 0 then
              some (.inr (.inr (([] : List tree_Leaf), r16.2.1, r16.2.2)))
            else
              need ((out8.length + [r16.1].length) * 88 ≤ room) <|
              some (.inl (out8 ++ [r16.1], w64 (t9 + 1)))
          else
            some (.inr (.inl out8))) (([] : List tree_Leaf), 0)) (fun (out10 : (List tree_Leaf)) =>
        some (.inl out10))
      (fun ((t12, t13, t14) : (List tree_Leaf) × Int × Int) => some (.inr (t12, t13, t14)))) (fun (out2 : (List tree_Leaf)) =>
      some (out2, 0, 0))
    (fun ((t4, t5, t6) : (List tree_Leaf) × Int × Int) => some (t4, t5, t6))
def ir_tree_Leaves : IC :=
 (.seq (.reg none [i1 2 (.mov true (.c (.sl true 6 0 []))),
 i1 3 (.mov false (.c (.int .i64 0))),
 i1 4 (.mov false (.c (.int .i64 0)))] [0])
 (.seq (.reg none [mv 14 0,
 i1 15 (.call 68 [(.t 14)]),
 i1 13 (.movT (.t 15)),
 i1 16 (.extract (.t 13) 0),
 i1 17 (.extract (.t 13) 1),
 i1 18 (.extract (.t 13) 2),
 mv 5 16,
 mv 6 17,
 mv 7 18] [0, 5, 6, 7])
 (.seq (.seq (.reg none [mv 19 7,
 i1 20 (.bin .neq (.t 19) (.c (.int .i64 0)))] [0, 5, 6, 7, 20])
 (.cond (.t 20) (.seq (.reg none [mv 21 6,
 mv 22 7,
 i1 2 (.mov true (.c (.sl true 6 0 []))),
 mv 3 21,
 mv 4 22] [2, 3, 4])
 .ret)
 .skip))
 (.seq (.reg none [i1 8 (.mov true (.c (.sl true 6 0 [])))] [0, 5, 8])
 (.join [(8, false)] (.seq (.reg none [mv 23 5,
 i1 24 (.mov false (.c (.int .i64 0)))] [0, 8, 23, 24])
 (.block 0 (.loop [(0, false), (8, false), (23, false), (24, false)] (.seq (.reg none [i1 25 (.bin .lss (.t 24) (.t 23))] [0, 8, 23, 24, 25])
 (.seq (.cond (.t 25) .skip
 (.exit 0))
 (.seq (.block 1 (.seq (.reg none [mv 26 24,
 mv 9 26] [0, 8, 9, 23, 24])
 (.seq (.reg none [mv 28 0,
 mv 29 9,
 i1 30 (.call 33 [(.t 28), (.t 29)]),
 i1 27 (.movT (.t 30)),
 i1 31 (.extract (.t 27) 0),
 i1 32 (.extract (.t 27) 1),
 i1 33 (.extract (.t 27) 2),
 i1 10 (.allocL [.int .i64 0, .sl true 1 0 [], .int .i64 0, .int .i64 0, .str [], .sl true 4 0 []]),
 i0 (.store 6 (.t 10) (.t 31)),
 mv 11 32,
 mv 12 33] [0, 8, 10, 11, 12, 23, 24])
 (.seq (.seq (.reg none [mv 34 12,
 i1 35 (.bin .neq (.t 34) (.c (.int .i64 0)))] [0, 8, 10, 11, 12, 23, 24, 35])
 (.cond (.t 35) (.seq (.reg none [mv 36 11,
 mv 37 12,
 i1 2 (.mov true (.c (.sl true 6 0 []))),
 mv 3 36,
 mv 4 37] [2, 3, 4])
 .ret)
 .skip))
 (.reg none [mt 38 8,
 i1 39 (.load 6 true (.t 10)),
 i1 40 (.buildSl 6 1 [.int .i64 0, .sl true 1 0 [], .int .i64 0, .int .i64 0, .str [], .sl true 4 0 []] [(0, 6, (.t 39))]),
 i1 41 (.append 6 88 (.t 38) (.t 40)),
 mt 8 41] [0, 8, 23, 24])))))
 (.reg none [i1 42 (.bin .add (.t 24) (.c (.int .i64 1))),
 mv 24 42] [0, 8, 23, 24])))))))
 (.seq (.reg none [mt 43 8,
 mt 2 43,
 i1 3 (.mov false (.c (.int .i64 0))),
 i1 4 (.mov false (.c (.int .i64 0)))] [2, 3, 4])
 .ret))))))
def res_tree_Leaves : List IRes := [⟨2, true, none⟩, ⟨3, true, none⟩, ⟨4, true, none⟩]
theorem is_tree_Leaves : fnIs Go.Proofs.Try.prog 69 44 res_tree_Leaves ir_tree_Leaves = true := by kernel_rfl
theorem tree_Leaves_fn {f_0} {B0 B0_get_ : Nat} {s : Store} {Q : List AV → Store → Prop} (hB0 : s B0 = some (.cells [.int .i64 f_0.root_, .int .i64 f_0.count_, .fn 61 [] [.ref B0_get_ 0]])) (hB0_get_ : s B0_get_ = some (.cells [.sl false 6 f_0.get_.Objects.length (flat f_0.get_.Objects), .int .i64 f_0.get_.Root])) (nB0B0_get_ : B0 ≠ B0_get_) : ok (tree_Leaves f_0) (fun r => Q [.sl true 6 r.1.length (flat r.1), .int .i64 r.2.1, .int .i64 r.2.2] s) → FN Go.Proofs.Try.prog 69 [.ref B0 0] s Q := by
  have hS : s = ((s.set B0 (.cells [.int .i64 f_0.root_, .int .i64 f_0.count_, .fn 61 [] [.ref B0_get_ 0]])).set B0_get_ (.cells [.sl false 6 f_0.get_.Objects.length (flat f_0.get_.Objects), .int .i64 f_0.get_.Root])) := by simp only [set_eq' hB0, set_eq' hB0_get_]
  rw [hS]
  intro h
  refine FN.of (draw_ok mix) is_tree_Leaves rfl (Nat.le_of_ble_eq_true rfl) ?_
  revert h
  rw [ir_tree_Leaves, res_tree_Leaves, tree_Leaves]
  repeat' (first
    | with_reducible exact tt_to
    | with_reducible refine and_to ?_ ?_
    | with_reducible refine im_to ?_
    | with_reducible refine call_to (fun _ (h : tree_Pages f_0 = some _) => tree_Pages_fe (B0 := B0) (B0_get_ := B0_get_) (by simp -implicitDefEqProofs only [go_sem, start, startE, resVs, resV, resC, allV, retK, Nat.reduceBEq, Nat.reduceAdd, Nat.reduceMul, Nat.reduceLeDiff, Nat.reduceEqDiff, Nat.reduceBNe, Nat.ble_eq, UInt8.reduceToNat, set_ne nB0B0_get_, set_ne nB0B0_get_.symm, set_comm nB0B0_get_]) (by simp -implicitDefEqProofs only [go_sem, start, startE, resVs, resV, resC, allV, retK, Nat.reduceBEq, Nat.reduceAdd, Nat.reduceMul, Nat.reduceLeDiff, Nat.reduceEqDiff, Nat.reduceBNe, Nat.ble_eq, UInt8.reduceToNat, set_ne nB0B0_get_, set_ne nB0B0_get_.symm, set_comm nB0B0_get_]) nB0B0_get_ h) (fun r1 => ?_)
    | with_reducible refine call_to_q (fun _ (h : tree_Pages f_0 = some _) => tree_Pages_fe (B0 := B0) (B0_get_ := B0_get_) (by simp -implicitDefEqProofs only [go_sem, start, startE, resVs, resV, resC, allV, retK, Nat.reduceBEq, Nat.reduceAdd, Nat.reduceMul, Nat.reduceLeDiff, Nat.reduceEqDiff, Nat.reduceBNe, Nat.ble_eq, UInt8.reduceToNat, set_ne nB0B0_get_, set_ne nB0B0_get_.symm, set_comm nB0B0_get_]) (by simp -implicitDefEqProofs only [go_sem, start, startE, resVs, resV, resC, allV, retK, Nat.reduceBEq, Nat.reduceAdd, Nat.reduceMul, Nat.reduceLeDiff, Nat.reduceEqDiff, Nat.reduceBNe, Nat.ble_eq, UInt8.reduceToNat, set_ne nB0B0_get_, set_ne nB0B0_get_.symm, set_comm nB0B0_get_]) nB0B0_get_ h) (fun _ => rfl) (fun r1 => ?_)
    | with_reducible refine call_to (fun _ (h : tree_Find f_0 t9 = some _) => tree_Find_fe (B0 := B0) (B0_get_ := B0_get_) (by simp -implicitDefEqProofs only [go_sem, start, startE, resVs, resV, resC, allV, retK, Nat.reduceBEq, Nat.reduceAdd, Nat.reduceMul, Nat.reduceLeDiff, Nat.reduceEqDiff, Nat.reduceBNe, Nat.ble_eq, UInt8.reduceToNat, set_ne nB0B0_get_, set_ne nB0B0_get_.symm, set_comm nB0B0_get_]) (by simp -implicitDefEqProofs only [go_sem, start, startE, resVs, resV, resC, allV, retK, Nat.reduceBEq, Nat.reduceAdd, Nat.reduceMul, Nat.reduceLeDiff, Nat.reduceEqDiff, Nat.reduceBNe, Nat.ble_eq, UInt8.reduceToNat, set_ne nB0B0_get_, set_ne nB0B0_get_.symm, set_comm nB0B0_get_]) nB0B0_get_ h) (fun r16 => ?_)
    | with_reducible refine call_to_q (fun _ (h : tree_Find f_0 t9 = some _) => tree_Find_fe (B0 := B0) (B0_get_ := B0_get_) (by simp -implicitDefEqProofs only [go_sem, start, startE, resVs, resV, resC, allV, retK, Nat.reduceBEq, Nat.reduceAdd, Nat.reduceMul, Nat.reduceLeDiff, Nat.reduceEqDiff, Nat.reduceBNe, Nat.ble_eq, UInt8.reduceToNat, set_ne nB0B0_get_, set_ne nB0B0_get_.symm, set_comm nB0B0_get_]) (by simp -implicitDefEqProofs only [go_sem, start, startE, resVs, resV, resC, allV, retK, Nat.reduceBEq, Nat.reduceAdd, Nat.reduceMul, Nat.reduceLeDiff, Nat.reduceEqDiff, Nat.reduceBNe, Nat.ble_eq, UInt8.reduceToNat, set_ne nB0B0_get_, set_ne nB0B0_get_.symm, set_comm nB0B0_get_]) nB0B0_get_ h) (fun _ => rfl) (fun r16 => ?_)
    | ((with_reducible refine iter_to (fun ((out8, t9) : (List tree_Leaf) × Int) => ⟨[(0, .ref B0 0), (8, .sl true 6 out8.length (flat out8)), (23, .int .i64 r1.1), (24, .int .i64 t9)], [], ((s.set B0 (.cells [.int .i64 f_0.root_, .int .i64 f_0.count_, .fn 61 [] [.ref B0_get_ 0]])).set B0_get_ (.cells [.sl false 6 f_0.get_.Objects.length (flat f_0.get_.Objects), .int .i64 f_0.get_.Root]))⟩) ?_ ?_); (first | exact rfl | simp -implicitDefEqProofs only [go_sem, start, startE, resVs, resV, resC, allV, retK, Nat.reduceBEq, Nat.reduceAdd, Nat.reduceMul, Nat.reduceLeDiff, Nat.reduceEqDiff, Nat.reduceBNe, Nat.ble_eq, UInt8.reduceToNat, set_ne nB0B0_get_, set_ne nB0B0_get_.symm, set_comm nB0B0_get_]); rintro J ⟨out8, t9⟩)
    | ((with_reducible refine join_toS (fun (out2 : (List tree_Leaf)) => ⟨[(8, .sl true 6 out2.length (flat out2))], [], ((s.set B0 (.cells [.int .i64 f_0.root_, .int .i64 f_0.count_, .fn 61 [] [.ref B0_get_ 0]])).set B0_get_ (.cells [.sl false 6 f_0.get_.Objects.length (flat f_0.get_.Objects), .int .i64 f_0.get_.Root]))⟩) (fun J => ?_) ?_); rotate_left; rintro out2)
    | simp -implicitDefEqProofs only [go_sem, start, startE, resVs, resV, resC, allV, retK, Nat.reduceBEq, Nat.reduceAdd, Nat.reduceMul, Nat.reduceLeDiff, Nat.reduceEqDiff, Nat.reduceBNe, Nat.ble_eq, UInt8.reduceToNat, set_ne nB0B0_get_, set_ne nB0B0_get_.symm, set_comm nB0B0_get_])
theorem tree_Leaves_fe {f_0} {B0 B0_get_ : Nat} {s : Store} {r : (List tree_Leaf) × Int × Int} (hB0 : s B0 = some (.cells [.int .i64 f_0.root_, .int .i64 f_0.count_, .fn 61 [] [.ref B0_get_ 0]])) (hB0_get_ : s B0_get_ = some (.cells [.sl false 6 f_0.get_.Objects.length (flat f_0.get_.Objects), .int .i64 f_0.get_.Root])) (nB0B0_get_ : B0 ≠ B0_get_) (h : tree_Leaves f_0 = some r) : FE Go.Proofs.Try.prog 69 [.ref B0 0] s [.sl true 6 r.1.length (flat r.1), .int .i64 r.2.1, .int .i64 r.2.2] s := tree_Leaves_fn hB0 hB0_get_ nB0B0_get_ ⟨r, h, rfl, rfl⟩
/-- catchword/tree.Node -/
def tree_Node (o_0 : api_Object) : Option ((List Int) × Int × Bool) :=
  bnd (tree_nodeOf 0 o_0) fun r1 =>
  if !r1.2 then
    some (([] : List Int), 0, false)
  else
    some (r1.1.kids_, r1.1.count_, true)
def ir_tree_Node : IC :=
 (.seq (.reg none [i1 1 (.boxL 6 (.t 0)),
 i1 2 (.mov true (.c (.sl true 1 0 []))),
 i1 3 (.mov false (.c (.int .i64 0))),
 i1 4 (.mov false (.c (.bool false)))] [1])
 (.seq (.reg none [i1 8 (.load 6 true (.t 1)),
 i1 9 (.call 70 [(.c (.int .i64 0)), (.t 8)]),
 i1 7 (.movT (.t 9)),
 i1 10 (.extract (.t 7) 0),
 i1 11 (.extract (.t 7) 1),
 i1 5 (.allocL [.int .i64 0, .int .i64 0, .int .i64 0, .str [], .sl true 4 0 [], .sl true 1 0 [], .int .i64 0]),
 i0 (.store 7 (.t 5) (.t 10)),
 mv 6 11] [5, 6])
 (.seq (.seq (.reg none [mv 12 6,
 i1 13 (.un .not (.t 12))] [5, 13])
 (.cond (.t 13) (.seq (.reg none [i1 2 (.mov true (.c (.sl true 1 0 []))),
 i1 3 (.mov false (.c (.int .i64 0))),
 i1 4 (.mov false (.c (.bool false)))] [2, 3, 4])
 .ret)
 .skip))
 (.seq (.reg (some 7) [i1 14 (.fieldAddr 5 (.t 5)),
 i1 15 (.load 1 false (.t 14)),
 i1 16 (.fieldAddr 6 (.t 5)),
 i1 17 (.load 1 false (.t 16)),
 mv 2 15,
 mv 3 17,
 i1 4 (.mov false (.c (.bool true)))] [2, 3, 4])
 .ret))))
def res_tree_Node : List IRes := [⟨2, false, none⟩, ⟨3, true, none⟩, ⟨4, true, none⟩]
theorem is_tree_Node : fnIs Go.Proofs.Try.prog 27 18 res_tree_Node ir_tree_Node = true := by kernel_rfl
theorem tree_Node_fn {o_0} {s : Store} {Q : List AV → Store → Prop}  : ok (tree_Node o_0) (fun r => Q [.sl false 1 r.1.length (flat r.1), .int .i64 r.2.1, .bool r.2.2] s) → FN Go.Proofs.Try.prog 27 [.agg [.int .i64 o_0.V.Kind, .int .i64 o_0.V.N, .str o_0.V.S.b, .sl false 4 o_0.V.L.length (flat o_0.V.L), .bool o_0.Stream, .str o_0.Data.b]] s Q := by
  intro h
  refine FN.of (draw_ok mix) is_tree_Node rfl (Nat.le_of_ble_eq_true rfl) ?_
  revert h
  rw [ir_tree_Node, res_tree_Node, tree_Node]
  repeat' (first
    | with_reducible exact tt_to
    | with_reducible refine and_to ?_ ?_
    | with_reducible refine im_to ?_
    | with_reducible refine call_to (fun _ (h : tree_nodeOf 0 o_0 = some _) => tree_nodeOf_fe h) (fun r1 => ?_)
    | with_reducible refine call_to_q (fun _ (h : tree_nodeOf 0 o_0 = some _) => tree_nodeOf_fe h) (fun _ => rfl) (fun r1 => ?_)
    | with_reducible refine call_to (fun _ (h : tree_nodeOf 0 o_0 = some _) => (by refine FE_cast ?_ (tree_nodeOf_fe h); simp -implicitDefEqProofs only [go_sem, start, startE, resVs, resV, resC, allV, retK, Nat.reduceBEq, Nat.reduceAdd, Nat.reduceMul, Nat.reduceLeDiff, Nat.reduceEqDiff, Nat.reduceBNe, Nat.ble_eq, UInt8.reduceToNat])) (fun r1 => ?_)
    | with_reducible refine call_to_q (fun _ (h : tree_nodeOf 0 o_0 = some _) => (by refine FE_cast ?_ (tree_nodeOf_fe h); simp -implicitDefEqProofs only [go_sem, start, startE, resVs, resV, resC, allV, retK, Nat.reduceBEq, Nat.reduceAdd, Nat.reduceMul, Nat.reduceLeDiff, Nat.reduceEqDiff, Nat.reduceBNe, Nat.ble_eq, UInt8.reduceToNat])) (fun _ => rfl) (fun r1 => ?_)
    | simp -implicitDefEqProofs only [go_sem, start, startE, resVs, resV, resC, allV, retK, Nat.reduceBEq, Nat.reduceAdd, Nat.reduceMul, Nat.reduceLeDiff, Nat.reduceEqDiff, Nat.reduceBNe, Nat.ble_eq, UInt8.reduceToNat])
theorem tree_Node_fe {o_0} {s : Store} {r : (List Int) × Int × Bool}  (h : tree_Node o_0 = some r) : FE Go.Proofs.Try.prog 27 [.agg [.int .i64 o_0.V.Kind, .int .i64 o_0.V.N, .str o_0.V.S.b, .sl false 4 o_0.V.L.length (flat o_0.V.L), .bool o_0.Stream, .str o_0.Data.b]] s [.sl false 1 r.1.length (flat r.1), .int .i64 r.2.1, .bool r.2.2] s := tree_Node_fn   ⟨r, h, rfl, rfl⟩
/-- catchword/catchwordref11.Find -/
def ref11_Find (v_0 : api_Value) (key_1 : Str) : Option (Int) :=
  jnS (
    bndS (
      iter (fun (k2 : Int) =>
        if (v_0.Kind == 7) && (decide (k2 < (v_0.L.length : Int))) then
          need (0 ≤ k2 ∧ k2 < v_0.L.length) <|
          need ((((ix v_0.L k2).Kind) == 5) = true → 0 ≤ k2 ∧ k2 < v_0.L.length) <|
          if (((ix v_0.L k2).Kind) == 5) && (((ix v_0.L k2).S).b == key_1.b) then
            some (.inr (.inr k2))
          else
            some (.inl (w64 (k2 + 2)))
        else
          some (.inr (.inl ()))) 0) (fun (_ : Unit) =>
      some (.inl ()))
    (fun (t3 : Int) => some (.inr t3))) (fun (_ : Unit) =>
    some (-1))
  (fun (t1 : Int) => some t1)
def ir_ref11_Find : IC :=
 (.seq (.reg none [i1 2 (.boxL 4 (.t 0)),
 i1 4 (.mov false (.c (.int .i64 0)))] [1, 2])
 (.join [] (.seq (.reg none [i1 5 (.mov false (.c (.int .i64 0)))] [1, 2, 5])
 (.block 0 (.loop [(1, false), (2, false), (5, false)] (.seq (.seq (.reg none [i1 6 (.fieldAddr 0 (.t 2)),
 i1 7 (.load 1 false (.t 6)),
 i1 8 (.bin .eql (.t 7) (.c (.int .i64 7))),
 mv 9 8,
 mvg 10 5 9 true,
 i1g 11 9 true (.fieldAddr 3 (.t 2)),
 i1g 12 9 true (.load 1 false (.t 11)),
 i1g 13 9 true (.len 0 (.t 12)),
 i1g 14 9 true (.bin .lss (.t 10) (.t 13)),
 i1 15 (.pick (.t 9) (.t 14) (.c (.bool false)))] [1, 2, 5, 15])
 (.cond (.t 15) .skip
 (.exit 0)))
 (.seq (.block 1 (.seq (.reg none [i1 18 (.fieldAddr 3 (.t 2)),
 i1 19 (.load 1 false (.t 18)),
 mv 20 5,
 i1 21 (.indexAddr [.int .i64 0, .int .i64 0, .str [], .sl false 4 0 []] (.t 19) (.t 20)),
 i1 22 (.fieldAddr 0 (.t 21)),
 i1 23 (.load 1 false (.t 22)),
 i1 24 (.bin .eql (.t 23) (.c (.int .i64 5))),
 mv 25 24,
 i1g 26 25 true (.fieldAddr 3 (.t 2)),
 i1g 27 25 true (.load 1 false (.t 26)),
 mvg 28 5 25 true,
 i1g 29 25 true (.indexAddr [.int .i64 0, .int .i64 0, .str [], .sl false 4 0 []] (.t 27) (.t 28)),
 i1g 30 25 true (.fieldAddr 2 (.t 29)),
 i1g 31 25 true (.load 1 false (.t 30)),
 mvg 32 1 25 true,
 i1g 33 25 true (.bin .eql (.t 31) (.t 32)),
 i1 34 (.pick (.t 25) (.t 33) (.c (.bool false)))] [1, 2, 5, 34])
 (.cond (.t 34) (.seq (.reg none [mv 35 5,
 mv 4 35] [4])
 .ret)
 .skip)))
 (.reg none [mv 16 5,
 i1 17 (.bin .add (.t 16) (.c (.int .i64 2))),
 mv 5 17] [1, 2, 5]))))))
 (.seq (.reg none [i1 4 (.mov false (.c (.int .i64 (-1))))] [4])
 .ret)))
def res_ref11_Find : List IRes := [⟨4, true, none⟩]
theorem is_ref11_Find : fnIs Go.Proofs.Try.prog 101 36 res_ref11_Find ir_ref11_Find = true := by kernel_rfl
theorem ref11_Find_fn {v_0 key_1} {s : Store} {Q : List AV → Store → Prop}  : ok (ref11_Find v_0 key_1) (fun r => Q [.int .i64 r] s) → FN Go.Proofs.Try.prog 101 [.agg [.int .i64 v_0.Kind, .int .i64 v_0.N, .str v_0.S.b, .sl false 4 v_0.L.length (flat v_0.L)], .str key_1.b] s Q := by
  intro h
  refine FN.of (draw_ok mix) is_ref11_Find rfl (Nat.le_of_ble_eq_true rfl) ?_
  revert h
  rw [ir_ref11_Find, res_ref11_Find, ref11_Find]
  repeat' (first
    | with_reducible exact tt_to
    | with_reducible refine and_to ?_ ?_
    | with_reducible refine im_to ?_
    | ((with_reducible refine iter_to (fun (k2 : Int) => ⟨[(1, .str key_1.b), (2, .loc [.int .i64 v_0.Kind, .int .i64 v_0.N, .str v_0.S.b, .sl false 4 v_0.L.length (flat v_0.L)]), (5, .int .i64 k2)], [], s⟩) ?_ ?_); (first | exact rfl | simp -implicitDefEqProofs only [go_sem, start, startE, resVs, resV, resC, allV, retK, Nat.reduceBEq, Nat.reduceAdd, Nat.reduceMul, Nat.reduceLeDiff, Nat.reduceEqDiff, Nat.reduceBNe, Nat.ble_eq, UInt8.reduceToNat]); rintro J k2)
    | ((with_reducible refine join_toS (fun (_ : Unit) => ⟨[], [], s⟩) (fun J => ?_) ?_); rotate_left; rintro _)
    | simp -implicitDefEqProofs only [go_sem, start, startE, resVs, resV, resC, allV, retK, Nat.reduceBEq, Nat.reduceAdd, Nat.reduceMul, Nat.reduceLeDiff, Nat.reduceEqDiff, Nat.reduceBNe, Nat.ble_eq, UInt8.reduceToNat])
theorem ref11_Find_fe {v_0 key_1} {s : Store} {r : Int}  (h : ref11_Find v_0 key_1 = some r) : FE Go.Proofs.Try.prog 101 [.agg [.int .i64 v_0.Kind, .int .i64 v_0.N, .str v_0.S.b, .sl false 4 v_0.L.length (flat v_0.L)], .str key_1.b] s [.int .i64 r] s := ref11_Find_fn   ⟨r, h, rfl, rfl⟩
/-- catchword/catchwordref11.Get -/
def ref11_Get (v_0 : api_Value) (key_1 : Str) : Option (api_Value × Bool) :=
  bnd (ref11_Find v_0 key_1) fun r1 =>
  if decide (r1 < 0) then
    some ((api_Value.mk 0 0 (Str.mk []) ([] : List api_Value)), false)
  else
    if r1 == (w64 ((v_0.L.length : Int) - 1)) then
      some ((api_Value.mk 0 0 (Str.mk []) ([] : List api_Value)), true)
    else
      need (0 ≤ w64 (r1 + 1) ∧ w64 (r1 + 1) < v_0.L.length) <|
      some (ix v_0.L (w64 (r1 + 1)), true)
def ir_ref11_Get : IC :=
 (.seq (.reg none [i1 2 (.boxL 4 (.t 0)),
 i1 4 (.allocL [.int .i64 0, .int .i64 0, .str [], .sl true 4 0 []]),
 i1 5 (.mov false (.c (.bool false)))] [1, 2, 4])
 (.seq (.reg none [i1 7 (.load 4 true (.t 2)),
 mv 8 1,
 i1 9 (.call 101 [(.t 7), (.t 8)]),
 mv 6 9] [2, 4, 6])
 (.seq (.seq (.reg none [mv 10 6,
 i1 11 (.bin .lss (.t 10) (.c (.int .i64 0)))] [2, 4, 6, 11])
 (.cond (.t 11) (.seq (.reg none [i1 12 (.build [.int .i64 0, .int .i64 0, .str [], .sl true 4 0 []] []),
 i0 (.store 4 (.t 4) (.t 12)),
 i1 5 (.mov false (.c (.bool false)))] [4, 5])
 .ret)
 .skip))
 (.seq (.seq (.reg none [mv 13 6,
 i1 14 (.fieldAddr 3 (.t 2)),
 i1 15 (.load 1 false (.t 14)),
 i1 16 (.len 0 (.t 15)),
 i1 17 (.bin .sub (.t 16) (.c (.int .i64 1))),
 i1 18 (.bin .eql (.t 13) (.t 17))] [2, 4, 6, 18])
 (.cond (.t 18) (.seq (.reg none [i1 19 (.build [.int .i64 0, .int .i64 0, .str [], .sl true 4 0 []] []),
 i0 (.store 4 (.t 4) (.t 19)),
 i1 5 (.mov false (.c (.bool true)))] [4, 5])
 .ret)
 .skip))
 (.seq (.reg none [i1 20 (.fieldAddr 3 (.t 2)),
 i1 21 (.load 1 false (.t 20)),
 mv 22 6,
 i1 23 (.bin .add (.t 22) (.c (.int .i64 1))),
 i1 24 (.indexAddr [.int .i64 0, .int .i64 0, .str [], .sl false 4 0 []] (.t 21) (.t 23)),
 i1 25 (.load 4 true (.t 24)),
 i0 (.store 4 (.t 4) (.t 25)),
 i1 5 (.mov false (.c (.bool true)))] [4, 5])
 .ret)))))
def res_ref11_Get : List IRes := [⟨4, false, some (4, true)⟩, ⟨5, true, none⟩]
theorem is_ref11_Get : fnIs Go.Proofs.Try.prog 71 26 res_ref11_Get ir_ref11_Get = true := by kernel_rfl
theorem ref11_Get_fn {v_0 key_1} {s : Store} {Q : List AV → Store → Prop}  : ok (ref11_Get v_0 key_1) (fun r => Q [.agg [.int .i64 r.1.Kind, .int .i64 r.1.N, .str r.1.S.b, .sl false 4 r.1.L.length (flat r.1.L)], .bool r.2] s) → FN Go.Proofs.Try.prog 71 [.agg [.int .i64 v_0.Kind, .int .i64 v_0.N, .str v_0.S.b, .sl false 4 v_0.L.length (flat v_0.L)], .str key_1.b] s Q := by
  intro h
  refine FN.of (draw_ok mix) is_ref11_Get rfl (Nat.le_of_ble_eq_true rfl) ?_
  revert h
  rw [ir_ref11_Get, res_ref11_Get, ref11_Get]
  repeat' (first
    | with_reducible exact tt_to
    | with_reducible refine and_to ?_ ?_
    | with_reducible refine im_to ?_
    | with_reducible refine call_to (fun _ (h : ref11_Find v_0 key_1 = some _) => ref11_Find_fe h) (fun r1 => ?_)
    | with_reducible refine call_to_q (fun _ (h : ref11_Find v_0 key_1 = some _) => ref11_Find_fe h) (fun _ => rfl) (fun r1 => ?_)
    | with_reducible refine call_to (fun _ (h : ref11_Find v_0 key_1 = some _) => (by refine FE_cast ?_ (ref11_Find_fe h); simp -implicitDefEqProofs only [go_sem, start, startE, resVs, resV, resC, allV, retK, Nat.reduceBEq, Nat.reduceAdd, Nat.reduceMul, Nat.reduceLeDiff, Nat.reduceEqDiff, Nat.reduceBNe, Nat.ble_eq, UInt8.reduceToNat])) (fun r1 => ?_)
    | with_reducible refine call_to_q (fun _ (h : ref11_Find v_0 key_1 = some _) => (by refine FE_cast ?_ (ref11_Find_fe h); simp -implicitDefEqProofs only [go_sem, start, startE, resVs, resV, resC, allV, retK, Nat.reduceBEq, Nat.reduceAdd, Nat.reduceMul, Nat.reduceLeDiff, Nat.reduceEqDiff, Nat.reduceBNe, Nat.ble_eq, UInt8.reduceToNat])) (fun _ => rfl) (fun r1 => ?_)
    | simp -implicitDefEqProofs only [go_sem, start, startE, resVs, resV, resC, allV, retK, Nat.reduceBEq, Nat.reduceAdd, Nat.reduceMul, Nat.reduceLeDiff, Nat.reduceEqDiff, Nat.reduceBNe, Nat.ble_eq, UInt8.reduceToNat])
theorem ref11_Get_fe {v_0 key_1} {s : Store} {r : api_Value × Bool}  (h : ref11_Get v_0 key_1 = some r) : FE Go.Proofs.Try.prog 71 [.agg [.int .i64 v_0.Kind, .int .i64 v_0.N, .str v_0.S.b, .sl false 4 v_0.L.length (flat v_0.L)], .str key_1.b] s [.agg [.int .i64 r.1.Kind, .int .i64 r.1.N, .str r.1.S.b, .sl false 4 r.1.L.length (flat r.1.L)], .bool r.2] s := ref11_Get_fn   ⟨r, h, rfl, rfl⟩
/-- catchword/catchwordref20.Typed -/
def ref20_Typed (o_0 : api_Object) (name_1 : Str) : Option (Bool) :=
  bnd (ref11_Get o_0.V (Str.mk [84, 121, 112, 101])) fun r1 =>
  some (((r1.2 && !o_0.Stream) && (r1.1.Kind == 5)) && (r1.1.S.b == name_1.b))
def ir_ref20_Typed : IC :=
 (.seq (.reg none [i1 2 (.boxL 6 (.t 0)),
 i1 4 (.mov false (.c (.bool false)))] [1, 2])
 (.seq (.reg none [i1 8 (.fieldAddr 0 (.t 2)),
 i1 9 (.load 4 true (.t 8)),
 i1 10 (.call 71 [(.t 9), (.c (.str [84, 121, 112, 101]))]),
 i1 7 (.movT (.t 10)),
 i1 11 (.extract (.t 7) 0),
 i1 12 (.extract (.t 7) 1),
 i1 5 (.allocL [.int .i64 0, .int .i64 0, .str [], .sl true 4 0 []]),
 i0 (.store 4 (.t 5) (.t 11)),
 mv 6 12] [1, 2, 5, 6])
 (.seq (.reg none [mv 13 6,
 mv 14 13,
 i1g 15 14 true (.fieldAddr 4 (.t 2)),
 i1g 16 14 true (.load 1 false (.t 15)),
 i1g 17 14 true (.un .not (.t 16)),
 i1 18 (.pick (.t 14) (.t 17) (.c (.bool false))),
 mv 19 18,
 i1g 20 19 true (.fieldAddr 0 (.t 5)),
 i1g 21 19 true (.load 1 false (.t 20)),
 i1g 22 19 true (.bin .eql (.t 21) (.c (.int .i64 5))),
 i1 23 (.pick (.t 19) (.t 22) (.c (.bool false))),
 mv 24 23,
 i1g 25 24 true (.fieldAddr 2 (.t 5)),
 i1g 26 24 true (.load 1 false (.t 25)),
 mvg 27 1 24 true,
 i1g 28 24 true (.bin .eql (.t 26) (.t 27)),
 i1 29 (.pick (.t 24) (.t 28) (.c (.bool false))),
 mv 4 29] [4])
 .ret)))
def res_ref20_Typed : List IRes := [⟨4, true, none⟩]
theorem is_ref20_Typed : fnIs Go.Proofs.Try.prog 31 30 res_ref20_Typed ir_ref20_Typed = true := by kernel_rfl
theorem ref20_Typed_fn {o_0 name_1} {s : Store} {Q : List AV → Store → Prop}  : ok (ref20_Typed o_0 name_1) (fun r => Q [.bool r] s) → FN Go.Proofs.Try.prog 31 [.agg [.int .i64 o_0.V.Kind, .int .i64 o_0.V.N, .str o_0.V.S.b, .sl false 4 o_0.V.L.length (flat o_0.V.L), .bool o_0.Stream, .str o_0.Data.b], .str name_1.b] s Q := by
  intro h
  refine FN.of (draw_ok mix) is_ref20_Typed rfl (Nat.le_of_ble_eq_true rfl) ?_
  revert h
  rw [ir_ref20_Typed, res_ref20_Typed, ref20_Typed]
  repeat' (first
    | with_reducible exact tt_to
    | with_reducible refine and_to ?_ ?_
    | with_reducible refine im_to ?_
    | with_reducible refine call_to (fun _ (h : ref11_Get o_0.V (Str.mk [84, 121, 112, 101]) = some _) => ref11_Get_fe h) (fun r1 => ?_)
    | with_reducible refine call_to_q (fun _ (h : ref11_Get o_0.V (Str.mk [84, 121, 112, 101]) = some _) => ref11_Get_fe h) (fun _ => rfl) (fun r1 => ?_)
    | with_reducible refine call_to (fun _ (h : ref11_Get o_0.V (Str.mk [84, 121, 112, 101]) = some _) => (by refine FE_cast ?_ (ref11_Get_fe h); simp -implicitDefEqProofs only [go_sem, start, startE, resVs, resV, resC, allV, retK, Nat.reduceBEq, Nat.reduceAdd, Nat.reduceMul, Nat.reduceLeDiff, Nat.reduceEqDiff, Nat.reduceBNe, Nat.ble_eq, UInt8.reduceToNat])) (fun r1 => ?_)
    | with_reducible refine call_to_q (fun _ (h : ref11_Get o_0.V (Str.mk [84, 121, 112, 101]) = some _) => (by refine FE_cast ?_ (ref11_Get_fe h); simp -implicitDefEqProofs only [go_sem, start, startE, resVs, resV, resC, allV, retK, Nat.reduceBEq, Nat.reduceAdd, Nat.reduceMul, Nat.reduceLeDiff, Nat.reduceEqDiff, Nat.reduceBNe, Nat.ble_eq, UInt8.reduceToNat])) (fun _ => rfl) (fun r1 => ?_)
    | simp -implicitDefEqProofs only [go_sem, start, startE, resVs, resV, resC, allV, retK, Nat.reduceBEq, Nat.reduceAdd, Nat.reduceMul, Nat.reduceLeDiff, Nat.reduceEqDiff, Nat.reduceBNe, Nat.ble_eq, UInt8.reduceToNat])
theorem ref20_Typed_fe {o_0 name_1} {s : Store} {r : Bool}  (h : ref20_Typed o_0 name_1 = some r) : FE Go.Proofs.Try.prog 31 [.agg [.int .i64 o_0.V.Kind, .int .i64 o_0.V.N, .str o_0.V.S.b, .sl false 4 o_0.V.L.length (flat o_0.V.L), .bool o_0.Stream, .str o_0.Data.b], .str name_1.b] s [.bool r] s := ref20_Typed_fn   ⟨r, h, rfl, rfl⟩
/-- catchword/catchwordref20.Node -/
def ref20_Node (o_0 : api_Object) : Option (Int × (List Int) × Bool) :=
  bnd (ref11_Get o_0.V (Str.mk [75, 105, 100, 115])) fun r1 =>
  bnd (ref11_Get o_0.V (Str.mk [67, 111, 117, 110, 116])) fun r2 =>
  bnd (ref20_Typed o_0 (Str.mk [80, 97, 103, 101, 115])) fun r3 =>
  if ((((!r3 || (r1.1.Kind != 6)) || ((r1.1.L.length : Int) == 0)) || (r2.1.Kind != 2)) || (decide (r2.1.N < (r1.1.L.length : Int)))) || (decide (r2.1.N > 2048)) then
    some (0, ([] : List Int), false)
  else
    jnS (
      bndS (
        iter (fun ((out9, k10) : (List Int) × Int) =>
          if decide (k10 < (r1.1.L.length : Int)) then
            need (0 ≤ k10 ∧ k10 < r1.1.L.length) <|
            if ((ix r1.1.L k10).Kind) != 8 then
              some (.inr (.inr ((0 : Int), ([] : List Int), false)))
            else
              need (0 ≤ k10 ∧ k10 < r1.1.L.length) <|
              need ((out9.length + [(ix r1.1.L k10).N].length) * 8 ≤ room) <|
              some (.inl (out9 ++ [(ix r1.1.L k10).N], w64 (k10 + 1)))
          else
            some (.inr (.inl out9))) (([] : List Int), 0)) (fun (out12 : (List Int)) =>
        some (.inl out12))
      (fun ((t13, t14, t15) : Int × (List Int) × Bool) => some (.inr (t13, t14, t15)))) (fun (out5 : (List Int)) =>
      some (r2.1.N, out5, true))
    (fun ((t6, t7, t8) : Int × (List Int) × Bool) => some (t6, t7, t8))
def ir_ref20_Node : IC :=
 (.seq (.reg none [i1 1 (.boxL 6 (.t 0)),
 i1 2 (.mov false (.c (.int .i64 0))),
 i1 3 (.mov true (.c (.sl true 1 0 []))),
 i1 4 (.mov false (.c (.bool false)))] [1])
 (.seq (.reg none [i1 12 (.fieldAddr 0 (.t 1)),
 i1 13 (.load 4 true (.t 12)),
 i1 14 (.call 71 [(.t 13), (.c (.str [75, 105, 100, 115]))]),
 i1 11 (.movT (.t 14)),
 i1 15 (.extract (.t 11) 0),
 i1 16 (.extract (.t 11) 1),
 i1 5 (.allocL [.int .i64 0, .int .i64 0, .str [], .sl true 4 0 []]),
 i0 (.store 4 (.t 5) (.t 15)),
 mv 6 16] [1, 5])
 (.seq (.reg none [i1 18 (.fieldAddr 0 (.t 1)),
 i1 19 (.load 4 true (.t 18)),
 i1 20 (.call 71 [(.t 19), (.c (.str [67, 111, 117, 110, 116]))]),
 i1 17 (.movT (.t 20)),
 i1 21 (.extract (.t 17) 0),
 i1 22 (.extract (.t 17) 1),
 i1 7 (.allocL [.int .i64 0, .int .i64 0, .str [], .sl true 4 0 []]),
 i0 (.store 4 (.t 7) (.t 21)),
 mv 8 22] [1, 5, 7])
 (.seq (.seq (.reg none [i1 23 (.load 6 true (.t 1)),
 i1 24 (.call 31 [(.t 23), (.c (.str [80, 97, 103, 101, 115]))]),
 i1 25 (.un .not (.t 24)),
 mv 26 25,
 i1g 27 26 false (.fieldAddr 0 (.t 5)),
 i1g 28 26 false (.load 1 false (.t 27)),
 i1g 29 26 false (.bin .neq (.t 28) (.c (.int .i64 6))),
 i1 30 (.pick (.t 26) (.c (.bool true)) (.t 29)),
 mv 31 30,
 i1g 32 31 false (.fieldAddr 3 (.t 5)),
 i1g 33 31 false (.load 1 false (.t 32)),
 i1g 34 31 false (.len 0 (.t 33)),
 i1g 35 31 false (.bin .eql (.t 34) (.c (.int .i64 0))),
 i1 36 (.pick (.t 31) (.c (.bool true)) (.t 35)),
 mv 37 36,
 i1g 38 37 false (.fieldAddr 0 (.t 7)),
 i1g 39 37 false (.load 1 false (.t 38)),
 i1g 40 37 false (.bin .neq (.t 39) (.c (.int .i64 2))),
 i1 41 (.pick (.t 37) (.c (.bool true)) (.t 40)),
 mv 42 41,
 i1g 43 42 false (.fieldAddr 1 (.t 7)),
 i1g 44 42 false (.load 1 false (.t 43)),
 i1g 45 42 false (.fieldAddr 3 (.t 5)),
 i1g 46 42 false (.load 1 false (.t 45)),
 i1g 47 42 false (.len 0 (.t 46)),
 i1g 48 42 false (.bin .lss (.t 44) (.t 47)),
 i1 49 (.pick (.t 42) (.c (.bool true)) (.t 48)),
 mv 50 49,
 i1g 51 50 false (.fieldAddr 1 (.t 7)),
 i1g 52 50 false (.load 1 false (.t 51)),
 i1g 53 50 false (.bin .gtr (.t 52) (.c (.int .i64 2048))),
 i1 54 (.pick (.t 50) (.c (.bool true)) (.t 53))] [5, 7, 54])
 (.cond (.t 54) (.seq (.reg none [i1 2 (.mov false (.c (.int .i64 0))),
 i1 3 (.mov true (.c (.sl true 1 0 []))),
 i1 4 (.mov false (.c (.bool false)))] [2, 3, 4])
 .ret)
 .skip))
 (.seq (.reg none [i1 9 (.mov true (.c (.sl true 1 0 [])))] [5, 7, 9])
 (.join [(7, false), (9, false)] (.seq (.reg none [i1 10 (.mov false (.c (.int .i64 0)))] [5, 7, 9, 10])
 (.block 0 (.loop [(5, false), (7, false), (9, false), (10, false)] (.seq (.seq (.reg none [mv 55 10,
 i1 56 (.fieldAddr 3 (.t 5)),
 i1 57 (.load 1 false (.t 56)),
 i1 58 (.len 0 (.t 57)),
 i1 59 (.bin .lss (.t 55) (.t 58))] [5, 7, 9, 10, 59])
 (.cond (.t 59) .skip
 (.exit 0)))
 (.seq (.block 1 (.seq (.seq (.reg none [i1 62 (.fieldAddr 3 (.t 5)),
 i1 63 (.load 1 false (.t 62)),
 mv 64 10,
 i1 65 (.indexAddr [.int .i64 0, .int .i64 0, .str [], .sl false 4 0 []] (.t 63) (.t 64)),
 i1 66 (.fieldAddr 0 (.t 65)),
 i1 67 (.load 1 false (.t 66)),
 i1 68 (.bin .neq (.t 67) (.c (.int .i64 8)))] [5, 7, 9, 10, 68])
 (.cond (.t 68) (.seq (.reg none [i1 2 (.mov false (.c (.int .i64 0))),
 i1 3 (.mov true (.c (.sl true 1 0 []))),
 i1 4 (.mov false (.c (.bool false)))] [2, 3, 4])
 .ret)
 .skip))
 (.reg none [mt 69 9,
 i1 70 (.fieldAddr 3 (.t 5)),
 i1 71 (.load 1 false (.t 70)),
 mv 72 10,
 i1 73 (.indexAddr [.int .i64 0, .int .i64 0, .str [], .sl false 4 0 []] (.t 71) (.t 72)),
 i1 74 (.fieldAddr 1 (.t 73)),
 i1 75 (.load 1 false (.t 74)),
 i1 76 (.buildSl 1 1 [.int .i64 0] [(0, 1, (.t 75))]),
 i1 77 (.append 1 8 (.t 69) (.t 76)),
 mt 9 77] [5, 7, 9, 10])))
 (.reg none [mv 60 10,
 i1 61 (.bin .add (.t 60) (.c (.int .i64 1))),
 mv 10 61] [5, 7, 9, 10]))))))
 (.seq (.reg none [i1 78 (.fieldAddr 1 (.t 7)),
 i1 79 (.load 1 false (.t 78)),
 mt 80 9,
 mv 2 79,
 mt 3 80,
 i1 4 (.mov false (.c (.bool true)))] [2, 3, 4])
 .ret)))))))
def res_ref20_Node : List IRes := [⟨2, true, none⟩, ⟨3, true, none⟩, ⟨4, true, none⟩]
theorem is_ref20_Node : fnIs Go.Proofs.Try.prog 28 81 res_ref20_Node ir_ref20_Node = true := by kernel_rfl
theorem ref20_Node_fn {o_0} {s : Store} {Q : List AV → Store → Prop}  : ok (ref20_Node o_0) (fun r => Q [.int .i64 r.1, .sl true 1 r.2.1.length (flat r.2.1), .bool r.2.2] s) → FN Go.Proofs.Try.prog 28 [.agg [.int .i64 o_0.V.Kind, .int .i64 o_0.V.N, .str o_0.V.S.b, .sl false 4 o_0.V.L.length (flat o_0.V.L), .bool o_0.Stream, .str o_0.Data.b]] s Q := by
  intro h
  refine FN.of (draw_ok mix) is_ref20_Node rfl (Nat.le_of_ble_eq_true rfl) ?_
  revert h
  rw [ir_ref20_Node, res_ref20_Node, ref20_Node]
  repeat' (first
    | with_reducible exact tt_to
    | with_reducible refine and_to ?_ ?_
    | with_reducible refine im_to ?_
    | with_reducible refine call_to (fun _ (h : ref11_Get o_0.V (Str.mk [75, 105, 100, 115]) = some _) => ref11_Get_fe h) (fun r1 => ?_)
    | with_reducible refine call_to_q (fun _ (h : ref11_Get o_0.V (Str.mk [75, 105, 100, 115]) = some _) => ref11_Get_fe h) (fun _ => rfl) (fun r1 => ?_)
    | with_reducible refine call_to (fun _ (h : ref11_Get o_0.V (Str.mk [75, 105, 100, 115]) = some _) => (by refine FE_cast ?_ (ref11_Get_fe h); simp -implicitDefEqProofs only [go_sem, start, startE, resVs, resV, resC, allV, retK, Nat.reduceBEq, Nat.reduceAdd, Nat.reduceMul, Nat.reduceLeDiff, Nat.reduceEqDiff, Nat.reduceBNe, Nat.ble_eq, UInt8.reduceToNat])) (fun r1 => ?_)
    | with_reducible refine call_to_q (fun _ (h : ref11_Get o_0.V (Str.mk [75, 105, 100, 115]) = some _) => (by refine FE_cast ?_ (ref11_Get_fe h); simp -implicitDefEqProofs only [go_sem, start, startE, resVs, resV, resC, allV, retK, Nat.reduceBEq, Nat.reduceAdd, Nat.reduceMul, Nat.reduceLeDiff, Nat.reduceEqDiff, Nat.reduceBNe, Nat.ble_eq, UInt8.reduceToNat])) (fun _ => rfl) (fun r1 => ?_)
    | with_reducible refine call_to (fun _ (h : ref11_Get o_0.V (Str.mk [67, 111, 117, 110, 116]) = some _) => ref11_Get_fe h) (fun r2 => ?_)
    | with_reducible refine call_to_q (fun _ (h : ref11_Get o_0.V (Str.mk [67, 111, 117, 110, 116]) = some _) => ref11_Get_fe h) (fun _ => rfl) (fun r2 => ?_)
    | with_reducible refine call_to (fun _ (h : ref11_Get o_0.V (Str.mk [67, 111, 117, 110, 116]) = some _) => (by refine FE_cast ?_ (ref11_Get_fe h); simp -implicitDefEqProofs only [go_sem, start, startE, resVs, resV, resC, allV, retK, Nat.reduceBEq, Nat.reduceAdd, Nat.reduceMul, Nat.reduceLeDiff, Nat.reduceEqDiff, Nat.reduceBNe, Nat.ble_eq, UInt8.reduceToNat])) (fun r2 => ?_)
    | with_reducible refine call_to_q (fun _ (h : ref11_Get o_0.V (Str.mk [67, 111, 117, 110, 116]) = some _) => (by refine FE_cast ?_ (ref11_Get_fe h); simp -implicitDefEqProofs only [go_sem, start, startE, resVs, resV, resC, allV, retK, Nat.reduceBEq, Nat.reduceAdd, Nat.reduceMul, Nat.reduceLeDiff, Nat.reduceEqDiff, Nat.reduceBNe, Nat.ble_eq, UInt8.reduceToNat])) (fun _ => rfl) (fun r2 => ?_)
    | with_reducible refine call_to (fun _ (h : ref20_Typed o_0 (Str.mk [80, 97, 103, 101, 115]) = some _) => ref20_Typed_fe h) (fun r3 => ?_)
    | with_reducible refine call_to_q (fun _ (h : ref20_Typed o_0 (Str.mk [80, 97, 103, 101, 115]) = some _) => ref20_Typed_fe h) (fun _ => rfl) (fun r3 => ?_)
    | with_reducible refine call_to (fun _ (h : ref20_Typed o_0 (Str.mk [80, 97, 103, 101, 115]) = some _) => (by refine FE_cast ?_ (ref20_Typed_fe h); simp -implicitDefEqProofs only [go_sem, start, startE, resVs, resV, resC, allV, retK, Nat.reduceBEq, Nat.reduceAdd, Nat.reduceMul, Nat.reduceLeDiff, Nat.reduceEqDiff, Nat.reduceBNe, Nat.ble_eq, UInt8.reduceToNat])) (fun r3 => ?_)
    | with_reducible refine call_to_q (fun _ (h : ref20_Typed o_0 (Str.mk [80, 97, 103, 101, 115]) = some _) => (by refine FE_cast ?_ (ref20_Typed_fe h); simp -implicitDefEqProofs only [go_sem, start, startE, resVs, resV, resC, allV, retK, Nat.reduceBEq, Nat.reduceAdd, Nat.reduceMul, Nat.reduceLeDiff, Nat.reduceEqDiff, Nat.reduceBNe, Nat.ble_eq, UInt8.reduceToNat])) (fun _ => rfl) (fun r3 => ?_)
    | ((with_reducible refine iter_to (fun ((out9, k10) : (List Int) × Int) => ⟨[(5, .loc [.int .i64 r1.1.Kind, .int .i64 r1.1.N, .str r1.1.S.b, .sl false 4 r1.1.L.length (flat r1.1.L)]), (7, .loc [.int .i64 r2.1.Kind, .int .i64 r2.1.N, .str r2.1.S.b, .sl false 4 r2.1.L.length (flat r2.1.L)]), (9, .sl true 1 out9.length (flat out9)), (10, .int .i64 k10)], [], s⟩) ?_ ?_); (first | exact rfl | simp -implicitDefEqProofs only [go_sem, start, startE, resVs, resV, resC, allV, retK, Nat.reduceBEq, Nat.reduceAdd, Nat.reduceMul, Nat.reduceLeDiff, Nat.reduceEqDiff, Nat.reduceBNe, Nat.ble_eq, UInt8.reduceToNat]); rintro J ⟨out9, k10⟩)
    | ((with_reducible refine join_toS (fun (out5 : (List Int)) => ⟨[(7, .loc [.int .i64 r2.1.Kind, .int .i64 r2.1.N, .str r2.1.S.b, .sl false 4 r2.1.L.length (flat r2.1.L)]), (9, .sl true 1 out5.length (flat out5))], [], s⟩) (fun J => ?_) ?_); rotate_left; rintro out5)
    | simp -implicitDefEqProofs only [go_sem, start, startE, resVs, resV, resC, allV, retK, Nat.reduceBEq, Nat.reduceAdd, Nat.reduceMul, Nat.reduceLeDiff, Nat.reduceEqDiff, Nat.reduceBNe, Nat.ble_eq, UInt8.reduceToNat])
theorem ref20_Node_fe {o_0} {s : Store} {r : Int × (List Int) × Bool}  (h : ref20_Node o_0 = some r) : FE Go.Proofs.Try.prog 28 [.agg [.int .i64 o_0.V.Kind, .int .i64 o_0.V.N, .str o_0.V.S.b, .sl false 4 o_0.V.L.length (flat o_0.V.L), .bool o_0.Stream, .str o_0.Data.b]] s [.int .i64 r.1, .sl true 1 r.2.1.length (flat r.2.1), .bool r.2.2] s := ref20_Node_fn   ⟨r, h, rfl, rfl⟩
end Go.AB
end

section
namespace Go.AB
open Go

/-- A search for a name ends, within the dictionary. -/
theorem value_find_some (v : api_Value) (key : Str) (h : (v.L.length : Int) ≤ 4611686018427387904) : ∃ r, value_find v key = some r ∧ -1 ≤ r ∧ r < v.L.length := by
  by_cases hk : (v.Kind != 7) = true
  · refine ⟨-1, ?_, by omega, by omega⟩
    unfold value_find; rw [if_pos hk]
  · have hit : ∃ o : Unit ⊕ Int, iter (fun (i2 : Int) =>
          if decide (i2 < (v.L.length : Int)) then
            need (0 ≤ i2 ∧ i2 < v.L.length) <|
            need ((((ix v.L i2).Kind) == 5) = true → 0 ≤ i2 ∧ i2 < v.L.length) <|
            if (((ix v.L i2).Kind) == 5) && (((ix v.L i2).S).b == key.b) then
              some (.inr (.inr i2))
            else
              some (.inl (w64 (i2 + 2)))
          else
            some (.inr (.inl ()))) 0 = some o ∧ (∀ r, o = .inr r → 0 ≤ r ∧ r < v.L.length) := by
      refine iter_inv (fun i => 0 ≤ i) (fun i => ((v.L.length : Int) - i).toNat) _ (Int.le_refl 0) (by omega) fun i hi => ?_
      by_cases hl : i < (v.L.length : Int)
      · rw [if_pos (by simpa using hl), need_pos ⟨hi, hl⟩, need_pos (fun _ => ⟨hi, hl⟩)]
        split
        · refine ⟨_, rfl, ?_⟩
          rintro r e; injection e with e; subst e; exact ⟨hi, hl⟩
        · refine ⟨_, rfl, ?_⟩
          show 0 ≤ w64 (i + 2) ∧ ((v.L.length : Int) - w64 (i + 2)).toNat < ((v.L.length : Int) - i).toNat
          rw [w64_id (by omega) (by omega)]
          exact ⟨by omega, by omega⟩
      · rw [if_neg (by simpa using hl)]
        exact ⟨_, rfl, fun r e => by cases e⟩
    obtain ⟨o, h1, h2⟩ := hit
    unfold value_find
    rw [if_neg hk, h1]
    cases o with
    | inl u => exact ⟨-1, rfl, by omega, by omega⟩
    | inr r => exact ⟨r, rfl, by have := h2 r rfl; omega, by have := h2 r rfl; omega⟩

theorem ref11_Find_eq (v : api_Value) (key : Str) : ref11_Find v key = value_find v key := by
  unfold ref11_Find value_find
  by_cases hk : (v.Kind == 7) = true
  · have hk' : (v.Kind != 7) = false := by rw [bne, hk]; rfl
    simp only [hk, hk', Bool.true_and, Bool.false_eq_true, if_false]
  · have hk2 : (v.Kind == 7) = false := by simpa using hk
    have hk' : (v.Kind != 7) = true := by rw [bne, hk2]; rfl
    rw [iter_eq (o := .inl ()) (fun _ => True) (fun _ => 0) trivial (by decide) fun i _ => .inr (by simp only [hk2, Bool.false_and, Bool.false_eq_true, if_false])]
    simp only [hk', if_true]
    rfl

theorem value_Get_some (v : api_Value) (key : Str) (h : (v.L.length : Int) ≤ 4611686018427387904) : ∃ r, value_Get v key = some r := by
  obtain ⟨r, h1, h2, h3⟩ := value_find_some v key h
  unfold value_Get
  rw [h1, bnd_some]
  by_cases h0 : r < 0
  · rw [if_pos (by simpa using h0)]; exact ⟨_, rfl⟩
  · rw [if_neg (by simpa using h0), w64_id (by omega) (by omega)]
    by_cases h4 : (r + 1 == (v.L.length : Int)) = true
    · rw [if_pos h4]; exact ⟨_, rfl⟩
    · rw [if_neg h4, need_pos (by have : ¬ r + 1 = (v.L.length : Int) := by simpa using h4
                                  exact ⟨by omega, by omega⟩)]
      exact ⟨_, rfl⟩
theorem ref11_Get_eq (v : api_Value) (key : Str) (h : (v.L.length : Int) ≤ 4611686018427387904) : ref11_Get v key = value_Get v key := by
  obtain ⟨r, h1, h2, h3⟩ := value_find_some v key h
  unfold ref11_Get value_Get
  rw [ref11_Find_eq, h1, bnd_some, bnd_some]
  by_cases h0 : r < 0
  · have e0 : (decide (r < 0)) = true := by simpa using h0
    simp only [e0, if_true]
  · have e0 : (decide (r < 0)) = false := by simpa using h0
    simp only [e0, Bool.false_eq_true, if_false]
    rw [w64_id (n := r + 1) (by omega) (by omega), w64_id (n := (v.L.length : Int) - 1) (by omega) (by omega)]
    have e : (r == (v.L.length : Int) - 1) = (r + 1 == (v.L.length : Int)) := by
      rw [Bool.eq_iff_iff, beq_iff_eq, beq_iff_eq]; omega
    rw [e]
/-- A name that is not there is a null. -/
theorem value_Get_no (v : api_Value) (key : Str) (r : api_Value × Bool) (h : value_Get v key = some r) (h2 : r.2 = false) : r.1.Kind = 0 := by
  unfold value_Get at h
  cases hf : value_find v key with
  | none => rw [hf] at h; cases h
  | some i =>
    rw [hf, bnd_some] at h
    split at h
    · injection h with h; subst h; rfl
    · split at h
      · injection h with h; subst h; cases h2
      · unfold need at h
        split at h
        · injection h with h; subst h; cases h2
        · cases h
end Go.AB
end

section
namespace Go.AB
open Go

/-- A value of so many parts at most. -/
def W : Nat → api_Value → Prop
  | 0, _ => False
  | n + 1, v => v.L.length ≤ n ∧ ∀ x ∈ v.L, W n x
theorem W_mono : ∀ (n m : Nat) (v : api_Value), n ≤ m → W n v → W m v
  | 0, _, _, _, h => h.elim
  | n + 1, 0, _, hm, _ => by omega
  | n + 1, m + 1, v, hm, h => ⟨by have := h.1; omega, fun x hx => W_mono n m x (by omega) (h.2 x hx)⟩

theorem few (fuel : Nat) : ∀ (v : api_Value) (left : Int), 0 ≤ left → left < fuel → left ≤ 4611686018427387904 → ∃ r, ref11_Few fuel v left = some r ∧ -1 ≤ r ∧ r < left ∧ (0 ≤ r → W left.toNat v) := by
  induction fuel with
  | zero => intro v left h0 h1; omega
  | succ fuel ih =>
    intro v left h0 h1 h2
    rw [ref11_Few]
    have hit : ∃ o : Int, iter (fun ((left2, k3) : Int × Int) =>
        if (decide (k3 < (v.L.length : Int))) && (decide (left2 ≥ 0)) then
          need (0 ≤ k3 ∧ k3 < v.L.length) <|
          bnd (ref11_Few fuel (ix v.L k3) left2) fun r5 =>
          some (.inl (r5, w64 (k3 + 1)))
        else
          some (.inr left2)) (w64 (left - 1), 0) = some o ∧ (-1 ≤ o ∧ o < left ∧ (0 ≤ o → W left.toNat v)) := by
      rw [w64_id (by omega) (by omega)]
      refine iter_inv (fun s => 0 ≤ s.2 ∧ -1 ≤ s.1 ∧ s.2 + s.1 ≤ left - 1 ∧ s.2 ≤ (v.L.length : Int) ∧ (0 ≤ s.1 → ∀ j : Nat, (j : Int) < s.2 → W (left - 1).toNat (ix v.L (j : Int)))) (fun s => (s.1 + 1).toNat) _ ?h (by show (left - 1 + 1).toNat < _; omega) ?s
      case h => exact ⟨Int.le_refl 0, by show -1 ≤ left - 1; omega, by show 0 + (left - 1) ≤ left - 1; omega, by show (0 : Int) ≤ _; omega, fun _ j hj => by have : (j : Int) < 0 := hj; omega⟩
      case s =>
        intro s hs
        obtain ⟨l2, k⟩ := s
        obtain ⟨i1, i2, i3, i4, i5⟩ := hs
        simp only at i1 i2 i3 i4 i5
        by_cases hc : k < (v.L.length : Int) ∧ 0 ≤ l2
        · have e : ((decide (k < (v.L.length : Int))) && (decide (l2 ≥ 0))) = true := by simp; exact ⟨hc.1, hc.2⟩
          obtain ⟨r, h3, h4, h5, h6⟩ := ih (ix v.L k) l2 hc.2 (by omega) (by omega)
          simp only [e, if_true]
          rw [need_pos ⟨i1, hc.1⟩, h3, bnd_some]
          refine ⟨_, rfl, ?_⟩
          rw [w64_id (by omega) (by omega)]
          refine ⟨⟨by show 0 ≤ k + 1; omega, h4, by show k + 1 + r ≤ left - 1; omega, by show k + 1 ≤ _; omega, fun hr j hj => ?_⟩, by show (r + 1).toNat < (l2 + 1).toNat; omega⟩
          have hr' : 0 ≤ r := hr
          have hj' : (j : Int) < k + 1 := hj
          by_cases hjk : (j : Int) < k
          · exact i5 hc.2 j hjk
          · rw [show (j : Int) = k by omega]
            exact W_mono _ _ _ (by omega) (h6 hr')
        · have e : ((decide (k < (v.L.length : Int))) && (decide (l2 ≥ 0))) = false := by
            cases h : ((decide (k < (v.L.length : Int))) && (decide (l2 ≥ 0))) with
            | false => rfl
            | true => simp at h; exact (hc ⟨h.1, h.2⟩).elim
          simp only [e, Bool.false_eq_true, if_false]
          refine ⟨_, rfl, i2, by show l2 < left; omega, fun hl => ?_⟩
          have hl' : 0 ≤ l2 := hl
          have hk : k = (v.L.length : Int) := by
            by_cases h : k < (v.L.length : Int)
            · exact (hc ⟨h, hl'⟩).elim
            · omega
          obtain ⟨m, hm⟩ : ∃ m, left.toNat = m + 1 := ⟨left.toNat - 1, by omega⟩
          rw [hm]
          refine ⟨by omega, fun x hx => ?_⟩
          obtain ⟨j, hj, rfl⟩ := List.getElem_of_mem hx
          have := i5 hl' j (by omega)
          rw [ix_nat hj, show (left - 1).toNat = m by omega] at this
          exact this
    obtain ⟨o, h3, h4⟩ := hit
    rw [h3]
    exact ⟨o, rfl, h4⟩

theorem texts : ∀ (n : Nat) (v : api_Value) (fuel : Nat), W n v → n ≤ fuel → n ≤ 4611686018427387904 → ∃ b, ref14_texts fuel v = some b
  | 0, _, _, h, _, _ => h.elim
  | n + 1, _, 0, _, h, _ => by omega
  | n + 1, v, fuel + 1, h, hf, hn => by
    rw [ref14_texts]
    have hit : ∃ o : Unit ⊕ Bool, iter (fun (k3 : Int) =>
          if decide (k3 < (v.L.length : Int)) then
            need (0 ≤ k3 ∧ k3 < v.L.length) <|
            bnd (ref14_texts fuel (ix v.L k3)) fun r6 =>
            if !r6 then
              some (.inr (.inr false))
            else
              some (.inl (w64 (k3 + 1)))
          else
            some (.inr (.inl ()))) 0 = some o ∧ True := by
      refine iter_inv (fun k => 0 ≤ k) (fun k => ((v.L.length : Int) - k).toNat) _ (Int.le_refl 0) (by have := h.1; omega) fun k hk => ?_
      by_cases hl : k < (v.L.length : Int)
      · rw [if_pos (by simpa using hl), need_pos ⟨hk, hl⟩]
        obtain ⟨b, hb⟩ := texts n (ix v.L k) fuel (by
          rw [ix_at (by omega)]
          exact h.2 _ (List.getElem_mem _)) (by omega) (by omega)
        rw [hb, bnd_some]
        cases b with
        | false => exact ⟨_, rfl, trivial⟩
        | true =>
          refine ⟨_, rfl, ?_⟩
          have := h.1
          show 0 ≤ w64 (k + 1) ∧ ((v.L.length : Int) - w64 (k + 1)).toNat < ((v.L.length : Int) - k).toNat
          rw [w64_id (by omega) (by omega)]
          exact ⟨by omega, by omega⟩
      · rw [if_neg (by simpa using hl)]
        exact ⟨_, rfl, trivial⟩
    obtain ⟨o, h1, _⟩ := hit
    rw [h1]
    cases o with
    | inl u => exact ⟨_, rfl⟩
    | inr b => exact ⟨_, rfl⟩

theorem ref14_Few_some (o : api_Object) (n : Int) : ∃ b, ref14_Few o n = some b ∧ (b = true → W 300 o.V) := by
  obtain ⟨r, h1, h2, h3, h4⟩ := few bigN o.V 300 (by decide) (by decide) (by decide)
  unfold ref14_Few
  rw [h1, bnd_some]
  by_cases hc : ((decide (r ≥ 0)) && (decide ((o.Data.b.length : Int) ≤ n))) = true
  · have hr : 0 ≤ r := by simp at hc; exact hc.1
    obtain ⟨b, hb⟩ := texts 300 o.V bigN (h4 hr) (by decide) (by decide)
    rw [hc, whenB_t, hb, bnd_some]
    exact ⟨_, rfl, fun _ => h4 hr⟩
  · have hc' : ((decide (r ≥ 0)) && (decide ((o.Data.b.length : Int) ≤ n))) = false := by simpa using hc
    rw [hc', whenB_f, bnd_some]
    exact ⟨_, rfl, fun h => by cases h⟩
end Go.AB
end

section
namespace Go.AB
open Go

/-- catchword/file.Of -/
def ir_file_Of : IC :=
 (.seq (.reg none [i1 1 (.boxS 2 (.t 0)),
 i1 2 (.mov false (.c (.nilp)))] [1])
 (.seq (.reg none [i1 3 (.fieldAddr 1 (.t 1)),
 i1 4 (.loadR [.int .i64 0] false (.t 3)),
 i1 5 (.fieldAddr 0 (.t 1)),
 i1 6 (.loadR [.sl false 6 0 []] false (.t 5)),
 i1 7 (.len 0 (.t 6)),
 i1 8 (.makeFn 61 [] [(.t 1)]),
 i1 9 (.build [.int .i64 0, .int .i64 0, .nilf] [(0, 1, (.t 4)), (1, 1, (.t 7)), (2, 1, (.t 8))]),
 i1 10 (.boxS 3 (.t 9)),
 mv 2 10] [2])
 .ret))
def res_file_Of : List IRes := [⟨2, true, none⟩]
theorem is_file_Of : fnIs Go.Proofs.Try.prog 21 11 res_file_Of ir_file_Of = true := by kernel_rfl

def file_Of (d : api_Doc) : Option file_File := some ⟨d.Root, d.Objects.length, d⟩
theorem file_Of_fn {d : api_Doc} {s : Store} {Q : List AV → Store → Prop} (h : ok (file_Of d) fun r => ∀ N1, s N1 = none → ∀ N2, (s.set N1 (.cells [.sl false 6 r.get_.Objects.length (flat r.get_.Objects), .int .i64 r.get_.Root])) N2 = none →
    Q [.ref N2 0] ((s.set N1 (.cells [.sl false 6 r.get_.Objects.length (flat r.get_.Objects), .int .i64 r.get_.Root])).set N2 (.cells [.int .i64 r.root_, .int .i64 r.count_, .fn 61 [] [.ref N1 0]]))) :
    FN Go.Proofs.Try.prog 21 [.agg [.sl false 6 d.Objects.length (flat d.Objects), .int .i64 d.Root]] s Q := by
  refine FN.of (draw_ok mix) is_file_Of rfl (Nat.le_of_ble_eq_true rfl) ?_
  unfold file_Of at h
  rw [ok_some] at h
  rw [ir_file_Of, res_file_Of]
  simp -implicitDefEqProofs only [go_sem, start, startE, resVs, resV, resC, allV, retK, Nat.reduceBEq, Nat.reduceAdd, Nat.reduceMul, Nat.reduceLeDiff, Nat.reduceEqDiff, Nat.reduceBNe, Nat.ble_eq, UInt8.reduceToNat, fnok_61, set_at]
  exact h

end Go.AB
end

section
set_option maxRecDepth 4000
namespace Go.AB
open Go
/-- catchword/catchwordlaw20.works -/
def law20_works  : Option (Bool) :=
  bnd (law20_small) fun r1 =>
  bnd (file_Of r1) fun r2 =>
  bnd (tree_Find r2 0) fun r3 =>
  bnd (tree_Pages r2) fun r4 =>
  bnd (tree_Leaves r2) fun r5 =>
  bnd (value_Get r3.1.Given (Str.mk [82, 111, 116, 97, 116, 101])) fun r6 =>
  need (((r3.1.Page == 3) && ((r3.1.Path.length : Int) == 1)) = true → 0 ≤ (0 : Int) ∧ (0 : Int) < r3.1.Path.length) <|
  some (((((((((((((r3.1.Page == 3) && ((r3.1.Path.length : Int) == 1)) && ((ix r3.1.Path 0) == 2)) && (r3.2.1 == 0)) && (r3.2.2 == 0)) && (r4.1 == 1)) && (r4.2.1 == 0)) && (r4.2.2 == 0)) && ((r5.1.length : Int) == 1)) && (r5.2.1 == 0)) && (r5.2.2 == 0)) && r6.2) && (r6.1.N == 90))
def ir_law20_works : IC :=
 (.seq (.reg none [i1 0 (.mov false (.c (.bool false)))] [])
 (.seq (.reg none [i1 13 (.call 67 []),
 i1 14 (.call 21 [(.t 13)]),
 mv 1 14] [1])
 (.seq (.reg none [mv 16 1,
 i1 17 (.call 33 [(.t 16), (.c (.int .i64 0))]),
 i1 15 (.movT (.t 17)),
 i1 18 (.extract (.t 15) 0),
 i1 19 (.extract (.t 15) 1),
 i1 20 (.extract (.t 15) 2),
 i1 2 (.allocL [.int .i64 0, .sl true 1 0 [], .int .i64 0, .int .i64 0, .str [], .sl true 4 0 []]),
 i0 (.store 6 (.t 2) (.t 18)),
 mv 3 19,
 mv 4 20] [1, 2, 3, 4])
 (.seq (.reg none [mv 22 1,
 i1 23 (.call 68 [(.t 22)]),
 i1 21 (.movT (.t 23)),
 i1 24 (.extract (.t 21) 0),
 i1 25 (.extract (.t 21) 1),
 i1 26 (.extract (.t 21) 2),
 mv 5 24,
 mv 6 25,
 mv 7 26] [1, 2, 3, 4, 5, 6, 7])
 (.seq (.reg none [mv 28 1,
 i1 29 (.call 69 [(.t 28)]),
 i1 27 (.movT (.t 29)),
 i1 30 (.extract (.t 27) 0),
 i1 31 (.extract (.t 27) 1),
 i1 32 (.extract (.t 27) 2),
 mt 8 30,
 mv 9 31,
 mv 10 32] [2, 3, 4, 5, 6, 7, 8, 9, 10])
 (.seq (.reg none [i1 34 (.fieldAddr 2 (.t 2)),
 i1 35 (.load 4 true (.t 34)),
 i1 36 (.call 30 [(.t 35), (.c (.str [82, 111, 116, 97, 116, 101]))]),
 i1 33 (.movT (.t 36)),
 i1 37 (.extract (.t 33) 0),
 i1 38 (.extract (.t 33) 1),
 i1 11 (.allocL [.int .i64 0, .int .i64 0, .str [], .sl true 4 0 []]),
 i0 (.store 4 (.t 11) (.t 37)),
 mv 12 38] [2, 3, 4, 5, 6, 7, 8, 9, 10, 11, 12])
 (.seq (.reg none [i1 39 (.fieldAddr 0 (.t 2)),
 i1 40 (.load 1 false (.t 39)),
 i1 41 (.bin .eql (.t 40) (.c (.int .i64 3))),
 mv 42 41,
 i1g 43 42 true (.fieldAddr 1 (.t 2)),
 i1g 44 42 true (.load 1 false (.t 43)),
 i1g 45 42 true (.len 0 (.t 44)),
 i1g 46 42 true (.bin .eql (.t 45) (.c (.int .i64 1))),
 i1 47 (.pick (.t 42) (.t 46) (.c (.bool false))),
 mv 48 47,
 i1g 49 48 true (.fieldAddr 1 (.t 2)),
 i1g 50 48 true (.load 1 false (.t 49)),
 i1g 51 48 true (.indexAddr [.int .i64 0] (.t 50) (.c (.int .i64 0))),
 i1g 52 48 true (.load 1 false (.t 51)),
 i1g 53 48 true (.bin .eql (.t 52) (.c (.int .i64 2))),
 i1 54 (.pick (.t 48) (.t 53) (.c (.bool false))),
 mv 55 54,
 mvg 56 3 55 true,
 i1g 57 55 true (.bin .eql (.t 56) (.c (.int .i64 0))),
 i1 58 (.pick (.t 55) (.t 57) (.c (.bool false))),
 mv 59 58,
 mvg 60 4 59 true,
 i1g 61 59 true (.bin .eql (.t 60) (.c (.int .i64 0))),
 i1 62 (.pick (.t 59) (.t 61) (.c (.bool false))),
 mv 63 62,
 mvg 64 5 63 true,
 i1g 65 63 true (.bin .eql (.t 64) (.c (.int .i64 1))),
 i1 66 (.pick (.t 63) (.t 65) (.c (.bool false))),
 mv 67 66,
 mvg 68 6 67 true,
 i1g 69 67 true (.bin .eql (.t 68) (.c (.int .i64 0))),
 i1 70 (.pick (.t 67) (.t 69) (.c (.bool false))),
 mv 71 70,
 mvg 72 7 71 true,
 i1g 73 71 true (.bin .eql (.t 72) (.c (.int .i64 0))),
 i1 74 (.pick (.t 71) (.t 73) (.c (.bool false))),
 mv 75 74,
 mvg 76 8 75 true,
 i1g 77 75 true (.len 0 (.t 76)),
 i1g 78 75 true (.bin .eql (.t 77) (.c (.int .i64 1))),
 i1 79 (.pick (.t 75) (.t 78) (.c (.bool false))),
 mv 80 79,
 mvg 81 9 80 true,
 i1g 82 80 true (.bin .eql (.t 81) (.c (.int .i64 0))),
 i1 83 (.pick (.t 80) (.t 82) (.c (.bool false))),
 mv 84 83,
 mvg 85 10 84 true,
 i1g 86 84 true (.bin .eql (.t 85) (.c (.int .i64 0))),
 i1 87 (.pick (.t 84) (.t 86) (.c (.bool false))),
 mv 88 87,
 mvg 89 12 88 true,
 i1 90 (.pick (.t 88) (.t 89) (.c (.bool false))),
 mv 91 90,
 i1g 92 91 true (.fieldAddr 1 (.t 11)),
 i1g 93 91 true (.load 1 false (.t 92)),
 i1g 94 91 true (.bin .eql (.t 93) (.c (.int .i64 90))),
 i1 95 (.pick (.t 91) (.t 94) (.c (.bool false))),
 mv 0 95] [0])
 .ret)))))))
def res_law20_works : List IRes := [⟨0, true, none⟩]
theorem is_law20_works : fnIs Go.Proofs.Try.prog 26 96 res_law20_works ir_law20_works = true := by kernel_rfl
theorem law20_works_fn  {s : Store} {Q : List AV → Store → Prop}  : ok (law20_works ) (fun r => Q [.bool r] s) → FN Go.Proofs.Try.prog 26 [] s Q := by
  intro h
  refine FN.forget ?_
  refine FN.of (draw_ok mix) is_law20_works rfl (Nat.le_of_ble_eq_true rfl) ?_
  revert h
  rw [ir_law20_works, res_law20_works, law20_works]
  repeat' (first
    | with_reducible exact tt_to
    | with_reducible refine and_to ?_ ?_
    | with_reducible refine im_to ?_
    | with_reducible refine call_to (fun _ (h : law20_small = some _) => law20_small_fe h) (fun r1 => ?_)
    | with_reducible refine call_to_q (fun _ (h : law20_small = some _) => law20_small_fe h) (fun _ => rfl) (fun r1 => ?_)
    | with_reducible refine call_to (fun _ (h : law20_small = some _) => (by refine FE_cast ?_ (law20_small_fe h); simp -implicitDefEqProofs only [go_sem, start, startE, resVs, resV, resC, allV, retK, Nat.reduceBEq, Nat.reduceAdd, Nat.reduceMul, Nat.reduceLeDiff, Nat.reduceEqDiff, Nat.reduceBNe, Nat.ble_eq, UInt8.reduceToNat])) (fun r1 => ?_)
    | with_reducible refine call_to_q (fun _ (h : law20_small = some _) => (by refine FE_cast ?_ (law20_small_fe h); simp -implicitDefEqProofs only [go_sem, start, startE, resVs, resV, resC, allV, retK, Nat.reduceBEq, Nat.reduceAdd, Nat.reduceMul, Nat.reduceLeDiff, Nat.reduceEqDiff, Nat.reduceBNe, Nat.ble_eq, UInt8.reduceToNat])) (fun _ => rfl) (fun r1 => ?_)
    | with_reducible refine fun hh => file_Of_fn (ok_mono (show ok (file_Of r1) _ from hh) fun r2 => ?_)
    | with_reducible refine call_to (fun _ (h : tree_Find r2 0 = some _) => tree_Find_fe (B0 := N2) (B0_get_ := N1) (by simp -implicitDefEqProofs only [go_sem, start, startE, resVs, resV, resC, allV, retK, Nat.reduceBEq, Nat.reduceAdd, Nat.reduceMul, Nat.reduceLeDiff, Nat.reduceEqDiff, Nat.reduceBNe, Nat.ble_eq, UInt8.reduceToNat, set_ne nN2N1, set_ne nN2N1.symm, set_comm nN2N1.symm]) (by simp -implicitDefEqProofs only [go_sem, start, startE, resVs, resV, resC, allV, retK, Nat.reduceBEq, Nat.reduceAdd, Nat.reduceMul, Nat.reduceLeDiff, Nat.reduceEqDiff, Nat.reduceBNe, Nat.ble_eq, UInt8.reduceToNat, set_ne nN2N1, set_ne nN2N1.symm, set_comm nN2N1.symm]) nN2N1 h) (fun r3 => ?_)
    | with_reducible refine call_to_q (fun _ (h : tree_Find r2 0 = some _) => tree_Find_fe (B0 := N2) (B0_get_ := N1) (by simp -implicitDefEqProofs only [go_sem, start, startE, resVs, resV, resC, allV, retK, Nat.reduceBEq, Nat.reduceAdd, Nat.reduceMul, Nat.reduceLeDiff, Nat.reduceEqDiff, Nat.reduceBNe, Nat.ble_eq, UInt8.reduceToNat, set_ne nN2N1, set_ne nN2N1.symm, set_comm nN2N1.symm]) (by simp -implicitDefEqProofs only [go_sem, start, startE, resVs, resV, resC, allV, retK, Nat.reduceBEq, Nat.reduceAdd, Nat.reduceMul, Nat.reduceLeDiff, Nat.reduceEqDiff, Nat.reduceBNe, Nat.ble_eq, UInt8.reduceToNat, set_ne nN2N1, set_ne nN2N1.symm, set_comm nN2N1.symm]) nN2N1 h) (fun _ => rfl) (fun r3 => ?_)
    | with_reducible refine call_to (fun _ (h : tree_Pages r2 = some _) => tree_Pages_fe (B0 := N2) (B0_get_ := N1) (by simp -implicitDefEqProofs only [go_sem, start, startE, resVs, resV, resC, allV, retK, Nat.reduceBEq, Nat.reduceAdd, Nat.reduceMul, Nat.reduceLeDiff, Nat.reduceEqDiff, Nat.reduceBNe, Nat.ble_eq, UInt8.reduceToNat, set_ne nN2N1, set_ne nN2N1.symm, set_comm nN2N1.symm]) (by simp -implicitDefEqProofs only [go_sem, start, startE, resVs, resV, resC, allV, retK, Nat.reduceBEq, Nat.reduceAdd, Nat.reduceMul, Nat.reduceLeDiff, Nat.reduceEqDiff, Nat.reduceBNe, Nat.ble_eq, UInt8.reduceToNat, set_ne nN2N1, set_ne nN2N1.symm, set_comm nN2N1.symm]) nN2N1 h) (fun r4 => ?_)
    | with_reducible refine call_to_q (fun _ (h : tree_Pages r2 = some _) => tree_Pages_fe (B0 := N2) (B0_get_ := N1) (by simp -implicitDefEqProofs only [go_sem, start, startE, resVs, resV, resC, allV, retK, Nat.reduceBEq, Nat.reduceAdd, Nat.reduceMul, Nat.reduceLeDiff, Nat.reduceEqDiff, Nat.reduceBNe, Nat.ble_eq, UInt8.reduceToNat, set_ne nN2N1, set_ne nN2N1.symm, set_comm nN2N1.symm]) (by simp -implicitDefEqProofs only [go_sem, start, startE, resVs, resV, resC, allV, retK, Nat.reduceBEq, Nat.reduceAdd, Nat.reduceMul, Nat.reduceLeDiff, Nat.reduceEqDiff, Nat.reduceBNe, Nat.ble_eq, UInt8.reduceToNat, set_ne nN2N1, set_ne nN2N1.symm, set_comm nN2N1.symm]) nN2N1 h) (fun _ => rfl) (fun r4 => ?_)
    | with_reducible refine call_to (fun _ (h : tree_Leaves r2 = some _) => tree_Leaves_fe (B0 := N2) (B0_get_ := N1) (by simp -implicitDefEqProofs only [go_sem, start, startE, resVs, resV, resC, allV, retK, Nat.reduceBEq, Nat.reduceAdd, Nat.reduceMul, Nat.reduceLeDiff, Nat.reduceEqDiff, Nat.reduceBNe, Nat.ble_eq, UInt8.reduceToNat, set_ne nN2N1, set_ne nN2N1.symm, set_comm nN2N1.symm]) (by simp -implicitDefEqProofs only [go_sem, start, startE, resVs, resV, resC, allV, retK, Nat.reduceBEq, Nat.reduceAdd, Nat.reduceMul, Nat.reduceLeDiff, Nat.reduceEqDiff, Nat.reduceBNe, Nat.ble_eq, UInt8.reduceToNat, set_ne nN2N1, set_ne nN2N1.symm, set_comm nN2N1.symm]) nN2N1 h) (fun r5 => ?_)
    | with_reducible refine call_to_q (fun _ (h : tree_Leaves r2 = some _) => tree_Leaves_fe (B0 := N2) (B0_get_ := N1) (by simp -implicitDefEqProofs only [go_sem, start, startE, resVs, resV, resC, allV, retK, Nat.reduceBEq, Nat.reduceAdd, Nat.reduceMul, Nat.reduceLeDiff, Nat.reduceEqDiff, Nat.reduceBNe, Nat.ble_eq, UInt8.reduceToNat, set_ne nN2N1, set_ne nN2N1.symm, set_comm nN2N1.symm]) (by simp -implicitDefEqProofs only [go_sem, start, startE, resVs, resV, resC, allV, retK, Nat.reduceBEq, Nat.reduceAdd, Nat.reduceMul, Nat.reduceLeDiff, Nat.reduceEqDiff, Nat.reduceBNe, Nat.ble_eq, UInt8.reduceToNat, set_ne nN2N1, set_ne nN2N1.symm, set_comm nN2N1.symm]) nN2N1 h) (fun _ => rfl) (fun r5 => ?_)
    | with_reducible refine call_to (fun _ (h : value_Get r3.1.Given (Str.mk [82, 111, 116, 97, 116, 101]) = some _) => value_Get_fe h) (fun r6 => ?_)
    | with_reducible refine call_to_q (fun _ (h : value_Get r3.1.Given (Str.mk [82, 111, 116, 97, 116, 101]) = some _) => value_Get_fe h) (fun _ => rfl) (fun r6 => ?_)
    | with_reducible refine call_to (fun _ (h : value_Get r3.1.Given (Str.mk [82, 111, 116, 97, 116, 101]) = some _) => (by refine FE_cast ?_ (value_Get_fe h); simp -implicitDefEqProofs only [go_sem, start, startE, resVs, resV, resC, allV, retK, Nat.reduceBEq, Nat.reduceAdd, Nat.reduceMul, Nat.reduceLeDiff, Nat.reduceEqDiff, Nat.reduceBNe, Nat.ble_eq, UInt8.reduceToNat])) (fun r6 => ?_)
    | with_reducible refine call_to_q (fun _ (h : value_Get r3.1.Given (Str.mk [82, 111, 116, 97, 116, 101]) = some _) => (by refine FE_cast ?_ (value_Get_fe h); simp -implicitDefEqProofs only [go_sem, start, startE, resVs, resV, resC, allV, retK, Nat.reduceBEq, Nat.reduceAdd, Nat.reduceMul, Nat.reduceLeDiff, Nat.reduceEqDiff, Nat.reduceBNe, Nat.ble_eq, UInt8.reduceToNat])) (fun _ => rfl) (fun r6 => ?_)
    | ((fail_if_success (have _x := sN1)); with_reducible intro hh N1 hN1; (try simp only [set_none] at hN1); have sN1 := hN1; revert hh)
    | (have _x := sN1; clear _x; (fail_if_success (have _x := sN2)); with_reducible intro hh N2 hN2; (try simp only [set_none] at hN2); obtain ⟨nN2N1, sN2⟩ := hN2; revert hh)
    | with_reducible exact fun hh => ⟨_, SubS.set (SubS.set (SubS.refl _) (by simp [Store.set, sN1])) (by simp [Store.set, sN2]), hh⟩
    | with_reducible exact fun hh => ⟨_, SubS.set (SubS.refl _) (by simp [Store.set, sN1]), hh⟩
    | with_reducible exact fun hh => ⟨_, SubS.refl _, hh⟩
    | simp -implicitDefEqProofs only [go_sem, start, startE, resVs, resV, resC, allV, retK, Nat.reduceBEq, Nat.reduceAdd, Nat.reduceMul, Nat.reduceLeDiff, Nat.reduceEqDiff, Nat.reduceBNe, Nat.ble_eq, UInt8.reduceToNat, set_ne nN2N1, set_ne nN2N1.symm, set_comm nN2N1.symm]
    | simp -implicitDefEqProofs only [go_sem, start, startE, resVs, resV, resC, allV, retK, Nat.reduceBEq, Nat.reduceAdd, Nat.reduceMul, Nat.reduceLeDiff, Nat.reduceEqDiff, Nat.reduceBNe, Nat.ble_eq, UInt8.reduceToNat]
    | simp -implicitDefEqProofs only [go_sem, start, startE, resVs, resV, resC, allV, retK, Nat.reduceBEq, Nat.reduceAdd, Nat.reduceMul, Nat.reduceLeDiff, Nat.reduceEqDiff, Nat.reduceBNe, Nat.ble_eq, UInt8.reduceToNat])
theorem law20_works_fe  {s : Store} {r : Bool}  (h : law20_works  = some r) : FE Go.Proofs.Try.prog 26 [] s [.bool r] s := law20_works_fn   ⟨r, h, rfl, rfl⟩
/-- catchword/catchwordlaw20.TreeKinds -/
def law20_TreeKinds (o_0 : api_Object) : Option (Bool) :=
  bnd (ref19_Few [o_0] 1) fun r1 =>
  if !r1 then
    bnd (law20_works) fun r2 =>
    some r2
  else
    bnd (tree_Node o_0) fun r3 =>
    bnd (ref20_Node o_0) fun r4 =>
    bnd (tree_Root o_0) fun r5 =>
    bnd (value_Get o_0.V (Str.mk [80, 97, 103, 101, 115])) fun r6 =>
    bnd (ref20_Typed o_0 (Str.mk [67, 97, 116, 97, 108, 111, 103])) fun r7 =>
    if (((((r3.2.1 != r4.1) || ((r3.2.2 == r4.2.2) != true)) || ((r3.1.length : Int) != (r4.2.1.length : Int))) || ((r5.2 == (r7 && (r6.1.Kind == 8))) != true)) || ((r7 && (r6.1.Kind == 8)) && (r5.1 != r6.1.N))) || ((!(r7 && (r6.1.Kind == 8))) && (r5.1 != 0)) then
      some false
    else
      jnS (
        bndS (
          iter (fun (k10 : Int) =>
            if decide (k10 < (r3.1.length : Int)) then
              need (0 ≤ k10 ∧ k10 < r3.1.length) <|
              need (0 ≤ k10 ∧ k10 < r4.2.1.length) <|
              if (ix r3.1 k10) != (ix r4.2.1 k10) then
                some (.inr (.inr false))
              else
                some (.inl (w64 (k10 + 1)))
            else
              some (.inr (.inl ()))) 0) (fun (_ : Unit) =>
          some (.inl ()))
        (fun (t12 : Bool) => some (.inr t12))) (fun (_ : Unit) =>
        bnd (tree_Page o_0) fun r13 =>
        bnd (ref20_Typed o_0 (Str.mk [80, 97, 103, 101])) fun r14 =>
        bnd (whenB ((r13 == r14) != false) false (law20_works)) fun r15 =>
        some (((r13 == r14) != false) && r15))
      (fun (t9 : Bool) => some t9)
def ir_law20_TreeKinds : IC :=
 (.seq (.reg none [i1 1 (.boxL 6 (.t 0)),
 i1 2 (.mov false (.c (.bool false)))] [1])
 (.seq (.seq (.reg none [i1 15 (.load 6 true (.t 1)),
 i1 16 (.buildSl 6 1 [.int .i64 0, .int .i64 0, .str [], .sl true 4 0 [], .bool false, .str []] [(0, 6, (.t 15))]),
 i1 17 (.call 18 [(.t 16), (.c (.int .i64 1))]),
 i1 18 (.un .not (.t 17))] [1, 18])
 (.cond (.t 18) (.seq (.reg none [i1 19 (.call 26 []),
 mv 2 19] [2])
 .ret)
 .skip))
 (.seq (.reg none [i1 21 (.load 6 true (.t 1)),
 i1 22 (.call 27 [(.t 21)]),
 i1 20 (.movT (.t 22)),
 i1 23 (.extract (.t 20) 0),
 i1 24 (.extract (.t 20) 1),
 i1 25 (.extract (.t 20) 2),
 mt 3 23,
 mv 4 24,
 mv 5 25] [1, 3, 4, 5])
 (.seq (.reg none [i1 27 (.load 6 true (.t 1)),
 i1 28 (.call 28 [(.t 27)]),
 i1 26 (.movT (.t 28)),
 i1 29 (.extract (.t 26) 0),
 i1 30 (.extract (.t 26) 1),
 i1 31 (.extract (.t 26) 2),
 mv 6 29,
 mt 7 30,
 mv 8 31] [1, 3, 4, 5, 6, 7, 8])
 (.seq (.reg none [i1 33 (.load 6 true (.t 1)),
 i1 34 (.call 29 [(.t 33)]),
 i1 32 (.movT (.t 34)),
 i1 35 (.extract (.t 32) 0),
 i1 36 (.extract (.t 32) 1),
 mv 9 35,
 mv 10 36] [1, 3, 4, 5, 6, 7, 8, 9, 10])
 (.seq (.reg none [i1 38 (.fieldAddr 0 (.t 1)),
 i1 39 (.load 4 true (.t 38)),
 i1 40 (.call 30 [(.t 39), (.c (.str [80, 97, 103, 101, 115]))]),
 i1 37 (.movT (.t 40)),
 i1 41 (.extract (.t 37) 0),
 i1 42 (.extract (.t 37) 1),
 i1 11 (.allocL [.int .i64 0, .int .i64 0, .str [], .sl true 4 0 []]),
 i0 (.store 4 (.t 11) (.t 41)),
 mv 12 42] [1, 3, 4, 5, 6, 7, 8, 9, 10, 11])
 (.seq (.reg none [i1 43 (.load 6 true (.t 1)),
 i1 44 (.call 31 [(.t 43), (.c (.str [67, 97, 116, 97, 108, 111, 103]))]),
 mv 45 44,
 i1g 46 45 true (.fieldAddr 0 (.t 11)),
 i1g 47 45 true (.load 1 false (.t 46)),
 i1g 48 45 true (.bin .eql (.t 47) (.c (.int .i64 8))),
 i1 49 (.pick (.t 45) (.t 48) (.c (.bool false))),
 mv 13 49] [1, 3, 4, 5, 6, 7, 8, 9, 10, 11, 13])
 (.seq (.seq (.reg none [mv 50 4,
 mv 51 6,
 i1 52 (.bin .neq (.t 50) (.t 51)),
 mv 53 52,
 mvg 54 5 53 false,
 mvg 55 8 53 false,
 i1g 56 53 false (.eqB true (.t 54) (.t 55)),
 i1 57 (.pick (.t 53) (.c (.bool true)) (.t 56)),
 mv 58 57,
 mvg 59 3 58 false,
 i1g 60 58 false (.len 0 (.t 59)),
 mvg 61 7 58 false,
 i1g 62 58 false (.len 0 (.t 61)),
 i1g 63 58 false (.bin .neq (.t 60) (.t 62)),
 i1 64 (.pick (.t 58) (.c (.bool true)) (.t 63)),
 mv 65 64,
 mvg 66 10 65 false,
 mvg 67 13 65 false,
 i1g 68 65 false (.eqB true (.t 66) (.t 67)),
 i1 69 (.pick (.t 65) (.c (.bool true)) (.t 68)),
 mv 70 69,
 mvg 71 13 70 false,
 mvg 72 71 70 false,
 mvg 73 9 72 true,
 i1g 74 72 true (.fieldAddr 1 (.t 11)),
 i1g 75 72 true (.load 1 false (.t 74)),
 i1g 76 72 true (.bin .neq (.t 73) (.t 75)),
 i1g 77 70 false (.pick (.t 72) (.t 76) (.c (.bool false))),
 i1 78 (.pick (.t 70) (.c (.bool true)) (.t 77)),
 mv 79 78,
 mvg 80 13 79 false,
 i1g 81 79 false (.un .not (.t 80)),
 mvg 82 81 79 false,
 mvg 83 9 82 true,
 i1g 84 82 true (.bin .neq (.t 83) (.c (.int .i64 0))),
 i1g 85 79 false (.pick (.t 82) (.t 84) (.c (.bool false))),
 i1 86 (.pick (.t 79) (.c (.bool true)) (.t 85))] [1, 3, 7, 86])
 (.cond (.t 86) (.seq (.reg none [i1 2 (.mov false (.c (.bool false)))] [2])
 .ret)
 .skip))
 (.join [(1, false)] (.seq (.reg none [i1 14 (.mov false (.c (.int .i64 0)))] [1, 3, 7, 14])
 (.block 0 (.loop [(1, false), (3, true), (7, true), (14, false)] (.seq (.seq (.reg none [mv 87 14,
 mv 88 3,
 i1 89 (.len 0 (.t 88)),
 i1 90 (.bin .lss (.t 87) (.t 89))] [1, 3, 7, 14, 90])
 (.cond (.t 90) .skip
 (.exit 0)))
 (.seq (.block 1 (.seq (.reg (some 9) [mv 93 3,
 mv 94 14,
 i1 95 (.indexAddr [.int .i64 0] (.t 93) (.t 94)),
 i1 96 (.load 1 false (.t 95)),
 mv 97 7,
 mv 98 14,
 i1 99 (.indexAddr [.int .i64 0] (.t 97) (.t 98)),
 i1 100 (.load 1 false (.t 99)),
 i1 101 (.bin .neq (.t 96) (.t 100))] [1, 3, 7, 14, 101])
 (.cond (.t 101) (.seq (.reg none [i1 2 (.mov false (.c (.bool false)))] [2])
 .ret)
 .skip)))
 (.reg none [mv 91 14,
 i1 92 (.bin .add (.t 91) (.c (.int .i64 1))),
 mv 14 92] [1, 3, 7, 14]))))))
 (.seq (.reg (some 9) [i1 102 (.load 6 true (.t 1)),
 i1 103 (.call 32 [(.t 102)]),
 i1 104 (.load 6 true (.t 1)),
 i1 105 (.call 31 [(.t 104), (.c (.str [80, 97, 103, 101]))]),
 i1 106 (.eqB false (.t 103) (.t 105)),
 mv 107 106,
 i1g 108 107 true (.call 26 []),
 i1 109 (.pick (.t 107) (.t 108) (.c (.bool false))),
 mv 2 109] [2])
 .ret))))))))))
def res_law20_TreeKinds : List IRes := [⟨2, true, none⟩]
theorem is_law20_TreeKinds : fnIs Go.Proofs.Try.prog 5 110 res_law20_TreeKinds ir_law20_TreeKinds = true := by kernel_rfl
theorem law20_TreeKinds_fn {o_0} {s : Store} {Q : List AV → Store → Prop}  : ok (law20_TreeKinds o_0) (fun r => Q [.bool r] s) → FN Go.Proofs.Try.prog 5 [.agg [.int .i64 o_0.V.Kind, .int .i64 o_0.V.N, .str o_0.V.S.b, .sl false 4 o_0.V.L.length (flat o_0.V.L), .bool o_0.Stream, .str o_0.Data.b]] s Q := by
  intro h
  refine FN.of (draw_ok mix) is_law20_TreeKinds rfl (Nat.le_of_ble_eq_true rfl) ?_
  revert h
  rw [ir_law20_TreeKinds, res_law20_TreeKinds, law20_TreeKinds]
  repeat' (first
    | with_reducible exact tt_to
    | with_reducible refine and_to ?_ ?_
    | with_reducible refine im_to ?_
    | with_reducible refine call_to (fun _ (h : ref19_Few [o_0] 1 = some _) => ref19_Few_fe h) (fun r1 => ?_)
    | with_reducible refine call_to_q (fun _ (h : ref19_Few [o_0] 1 = some _) => ref19_Few_fe h) (fun _ => rfl) (fun r1 => ?_)
    | with_reducible refine call_to (fun _ (h : ref19_Few [o_0] 1 = some _) => (by refine FE_cast ?_ (ref19_Few_fe h); simp -implicitDefEqProofs only [go_sem, start, startE, resVs, resV, resC, allV, retK, Nat.reduceBEq, Nat.reduceAdd, Nat.reduceMul, Nat.reduceLeDiff, Nat.reduceEqDiff, Nat.reduceBNe, Nat.ble_eq, UInt8.reduceToNat])) (fun r1 => ?_)
    | with_reducible refine call_to_q (fun _ (h : ref19_Few [o_0] 1 = some _) => (by refine FE_cast ?_ (ref19_Few_fe h); simp -implicitDefEqProofs only [go_sem, start, startE, resVs, resV, resC, allV, retK, Nat.reduceBEq, Nat.reduceAdd, Nat.reduceMul, Nat.reduceLeDiff, Nat.reduceEqDiff, Nat.reduceBNe, Nat.ble_eq, UInt8.reduceToNat])) (fun _ => rfl) (fun r1 => ?_)
    | ((fail_if_success (have _x := r2)); with_reducible refine call_to (fun _ (h : law20_works = some _) => law20_works_fe h) (fun r2 => ?_))
    | ((fail_if_success (have _x := r2)); with_reducible refine call_to_q (fun _ (h : law20_works = some _) => law20_works_fe h) (fun _ => rfl) (fun r2 => ?_))
    | ((fail_if_success (have _x := r2)); with_reducible refine call_to (fun _ (h : law20_works = some _) => (by refine FE_cast ?_ (law20_works_fe h); simp -implicitDefEqProofs only [go_sem, start, startE, resVs, resV, resC, allV, retK, Nat.reduceBEq, Nat.reduceAdd, Nat.reduceMul, Nat.reduceLeDiff, Nat.reduceEqDiff, Nat.reduceBNe, Nat.ble_eq, UInt8.reduceToNat])) (fun r2 => ?_))
    | ((fail_if_success (have _x := r2)); with_reducible refine call_to_q (fun _ (h : law20_works = some _) => (by refine FE_cast ?_ (law20_works_fe h); simp -implicitDefEqProofs only [go_sem, start, startE, resVs, resV, resC, allV, retK, Nat.reduceBEq, Nat.reduceAdd, Nat.reduceMul, Nat.reduceLeDiff, Nat.reduceEqDiff, Nat.reduceBNe, Nat.ble_eq, UInt8.reduceToNat])) (fun _ => rfl) (fun r2 => ?_))
    | with_reducible refine call_to (fun _ (h : tree_Node o_0 = some _) => tree_Node_fe h) (fun r3 => ?_)
    | with_reducible refine call_to_q (fun _ (h : tree_Node o_0 = some _) => tree_Node_fe h) (fun _ => rfl) (fun r3 => ?_)
    | with_reducible refine call_to (fun _ (h : tree_Node o_0 = some _) => (by refine FE_cast ?_ (tree_Node_fe h); simp -implicitDefEqProofs only [go_sem, start, startE, resVs, resV, resC, allV, retK, Nat.reduceBEq, Nat.reduceAdd, Nat.reduceMul, Nat.reduceLeDiff, Nat.reduceEqDiff, Nat.reduceBNe, Nat.ble_eq, UInt8.reduceToNat])) (fun r3 => ?_)
    | with_reducible refine call_to_q (fun _ (h : tree_Node o_0 = some _) => (by refine FE_cast ?_ (tree_Node_fe h); simp -implicitDefEqProofs only [go_sem, start, startE, resVs, resV, resC, allV, retK, Nat.reduceBEq, Nat.reduceAdd, Nat.reduceMul, Nat.reduceLeDiff, Nat.reduceEqDiff, Nat.reduceBNe, Nat.ble_eq, UInt8.reduceToNat])) (fun _ => rfl) (fun r3 => ?_)
    | with_reducible refine call_to (fun _ (h : ref20_Node o_0 = some _) => ref20_Node_fe h) (fun r4 => ?_)
    | with_reducible refine call_to_q (fun _ (h : ref20_Node o_0 = some _) => ref20_Node_fe h) (fun _ => rfl) (fun r4 => ?_)
    | with_reducible refine call_to (fun _ (h : ref20_Node o_0 = some _) => (by refine FE_cast ?_ (ref20_Node_fe h); simp -implicitDefEqProofs only [go_sem, start, startE, resVs, resV, resC, allV, retK, Nat.reduceBEq, Nat.reduceAdd, Nat.reduceMul, Nat.reduceLeDiff, Nat.reduceEqDiff, Nat.reduceBNe, Nat.ble_eq, UInt8.reduceToNat])) (fun r4 => ?_)
    | with_reducible refine call_to_q (fun _ (h : ref20_Node o_0 = some _) => (by refine FE_cast ?_ (ref20_Node_fe h); simp -implicitDefEqProofs only [go_sem, start, startE, resVs, resV, resC, allV, retK, Nat.reduceBEq, Nat.reduceAdd, Nat.reduceMul, Nat.reduceLeDiff, Nat.reduceEqDiff, Nat.reduceBNe, Nat.ble_eq, UInt8.reduceToNat])) (fun _ => rfl) (fun r4 => ?_)
    | with_reducible refine call_to (fun _ (h : tree_Root o_0 = some _) => tree_Root_fe h) (fun r5 => ?_)
    | with_reducible refine call_to_q (fun _ (h : tree_Root o_0 = some _) => tree_Root_fe h) (fun _ => rfl) (fun r5 => ?_)
    | with_reducible refine call_to (fun _ (h : tree_Root o_0 = some _) => (by refine FE_cast ?_ (tree_Root_fe h); simp -implicitDefEqProofs only [go_sem, start, startE, resVs, resV, resC, allV, retK, Nat.reduceBEq, Nat.reduceAdd, Nat.reduceMul, Nat.reduceLeDiff, Nat.reduceEqDiff, Nat.reduceBNe, Nat.ble_eq, UInt8.reduceToNat])) (fun r5 => ?_)
    | with_reducible refine call_to_q (fun _ (h : tree_Root o_0 = some _) => (by refine FE_cast ?_ (tree_Root_fe h); simp -implicitDefEqProofs only [go_sem, start, startE, resVs, resV, resC, allV, retK, Nat.reduceBEq, Nat.reduceAdd, Nat.reduceMul, Nat.reduceLeDiff, Nat.reduceEqDiff, Nat.reduceBNe, Nat.ble_eq, UInt8.reduceToNat])) (fun _ => rfl) (fun r5 => ?_)
    | with_reducible refine call_to (fun _ (h : value_Get o_0.V (Str.mk [80, 97, 103, 101, 115]) = some _) => value_Get_fe h) (fun r6 => ?_)
    | with_reducible refine call_to_q (fun _ (h : value_Get o_0.V (Str.mk [80, 97, 103, 101, 115]) = some _) => value_Get_fe h) (fun _ => rfl) (fun r6 => ?_)
    | with_reducible refine call_to (fun _ (h : value_Get o_0.V (Str.mk [80, 97, 103, 101, 115]) = some _) => (by refine FE_cast ?_ (value_Get_fe h); simp -implicitDefEqProofs only [go_sem, start, startE, resVs, resV, resC, allV, retK, Nat.reduceBEq, Nat.reduceAdd, Nat.reduceMul, Nat.reduceLeDiff, Nat.reduceEqDiff, Nat.reduceBNe, Nat.ble_eq, UInt8.reduceToNat])) (fun r6 => ?_)
    | with_reducible refine call_to_q (fun _ (h : value_Get o_0.V (Str.mk [80, 97, 103, 101, 115]) = some _) => (by refine FE_cast ?_ (value_Get_fe h); simp -implicitDefEqProofs only [go_sem, start, startE, resVs, resV, resC, allV, retK, Nat.reduceBEq, Nat.reduceAdd, Nat.reduceMul, Nat.reduceLeDiff, Nat.reduceEqDiff, Nat.reduceBNe, Nat.ble_eq, UInt8.reduceToNat])) (fun _ => rfl) (fun r6 => ?_)
    | with_reducible refine call_to (fun _ (h : ref20_Typed o_0 (Str.mk [67, 97, 116, 97, 108, 111, 103]) = some _) => ref20_Typed_fe h) (fun r7 => ?_)
    | with_reducible refine call_to_q (fun _ (h : ref20_Typed o_0 (Str.mk [67, 97, 116, 97, 108, 111, 103]) = some _) => ref20_Typed_fe h) (fun _ => rfl) (fun r7 => ?_)
    | with_reducible refine call_to (fun _ (h : ref20_Typed o_0 (Str.mk [67, 97, 116, 97, 108, 111, 103]) = some _) => (by refine FE_cast ?_ (ref20_Typed_fe h); simp -implicitDefEqProofs only [go_sem, start, startE, resVs, resV, resC, allV, retK, Nat.reduceBEq, Nat.reduceAdd, Nat.reduceMul, Nat.reduceLeDiff, Nat.reduceEqDiff, Nat.reduceBNe, Nat.ble_eq, UInt8.reduceToNat])) (fun r7 => ?_)
    | with_reducible refine call_to_q (fun _ (h : ref20_Typed o_0 (Str.mk [67, 97, 116, 97, 108, 111, 103]) = some _) => (by refine FE_cast ?_ (ref20_Typed_fe h); simp -implicitDefEqProofs only [go_sem, start, startE, resVs, resV, resC, allV, retK, Nat.reduceBEq, Nat.reduceAdd, Nat.reduceMul, Nat.reduceLeDiff, Nat.reduceEqDiff, Nat.reduceBNe, Nat.ble_eq, UInt8.reduceToNat])) (fun _ => rfl) (fun r7 => ?_)
    | with_reducible refine call_to (fun _ (h : tree_Page o_0 = some _) => tree_Page_fe h) (fun r13 => ?_)
    | with_reducible refine call_to_q (fun _ (h : tree_Page o_0 = some _) => tree_Page_fe h) (fun _ => rfl) (fun r13 => ?_)
    | with_reducible refine call_to (fun _ (h : tree_Page o_0 = some _) => (by refine FE_cast ?_ (tree_Page_fe h); simp -implicitDefEqProofs only [go_sem, start, startE, resVs, resV, resC, allV, retK, Nat.reduceBEq, Nat.reduceAdd, Nat.reduceMul, Nat.reduceLeDiff, Nat.reduceEqDiff, Nat.reduceBNe, Nat.ble_eq, UInt8.reduceToNat])) (fun r13 => ?_)
    | with_reducible refine call_to_q (fun _ (h : tree_Page o_0 = some _) => (by refine FE_cast ?_ (tree_Page_fe h); simp -implicitDefEqProofs only [go_sem, start, startE, resVs, resV, resC, allV, retK, Nat.reduceBEq, Nat.reduceAdd, Nat.reduceMul, Nat.reduceLeDiff, Nat.reduceEqDiff, Nat.reduceBNe, Nat.ble_eq, UInt8.reduceToNat])) (fun _ => rfl) (fun r13 => ?_)
    | with_reducible refine call_to (fun _ (h : ref20_Typed o_0 (Str.mk [80, 97, 103, 101]) = some _) => ref20_Typed_fe h) (fun r14 => ?_)
    | with_reducible refine call_to_q (fun _ (h : ref20_Typed o_0 (Str.mk [80, 97, 103, 101]) = some _) => ref20_Typed_fe h) (fun _ => rfl) (fun r14 => ?_)
    | with_reducible refine call_to (fun _ (h : ref20_Typed o_0 (Str.mk [80, 97, 103, 101]) = some _) => (by refine FE_cast ?_ (ref20_Typed_fe h); simp -implicitDefEqProofs only [go_sem, start, startE, resVs, resV, resC, allV, retK, Nat.reduceBEq, Nat.reduceAdd, Nat.reduceMul, Nat.reduceLeDiff, Nat.reduceEqDiff, Nat.reduceBNe, Nat.ble_eq, UInt8.reduceToNat])) (fun r14 => ?_)
    | with_reducible refine call_to_q (fun _ (h : ref20_Typed o_0 (Str.mk [80, 97, 103, 101]) = some _) => (by refine FE_cast ?_ (ref20_Typed_fe h); simp -implicitDefEqProofs only [go_sem, start, startE, resVs, resV, resC, allV, retK, Nat.reduceBEq, Nat.reduceAdd, Nat.reduceMul, Nat.reduceLeDiff, Nat.reduceEqDiff, Nat.reduceBNe, Nat.ble_eq, UInt8.reduceToNat])) (fun _ => rfl) (fun r14 => ?_)
    | ((fail_if_success (have _x := r15)); with_reducible refine call_to_g rfl (fun _ (h : law20_works = some _) => law20_works_fe h) (fun _ => rfl) (fun r15 => ?_))
    | ((fail_if_success (have _x := r15)); with_reducible refine call_to_g rfl (fun _ (h : law20_works = some _) => (by refine FE_cast ?_ (law20_works_fe h); simp -implicitDefEqProofs only [go_sem, start, startE, resVs, resV, resC, allV, retK, Nat.reduceBEq, Nat.reduceAdd, Nat.reduceMul, Nat.reduceLeDiff, Nat.reduceEqDiff, Nat.reduceBNe, Nat.ble_eq, UInt8.reduceToNat])) (fun _ => rfl) (fun r15 => ?_))
    | ((with_reducible refine iter_to (fun (k10 : Int) => ⟨[(1, .loc [.int .i64 o_0.V.Kind, .int .i64 o_0.V.N, .str o_0.V.S.b, .sl false 4 o_0.V.L.length (flat o_0.V.L), .bool o_0.Stream, .str o_0.Data.b]), (3, .sl false 1 r3.1.length (flat r3.1)), (7, .sl false 1 r4.2.1.length (flat r4.2.1)), (14, .int .i64 k10)], [], s⟩) ?_ ?_); (first | exact rfl | simp -implicitDefEqProofs only [go_sem, start, startE, resVs, resV, resC, allV, retK, Nat.reduceBEq, Nat.reduceAdd, Nat.reduceMul, Nat.reduceLeDiff, Nat.reduceEqDiff, Nat.reduceBNe, Nat.ble_eq, UInt8.reduceToNat]); rintro J k10)
    | ((with_reducible refine join_toS (fun (_ : Unit) => ⟨[(1, .loc [.int .i64 o_0.V.Kind, .int .i64 o_0.V.N, .str o_0.V.S.b, .sl false 4 o_0.V.L.length (flat o_0.V.L), .bool o_0.Stream, .str o_0.Data.b])], [], s⟩) (fun J => ?_) ?_); rotate_left; rintro _)
    | simp -implicitDefEqProofs only [go_sem, start, startE, resVs, resV, resC, allV, retK, Nat.reduceBEq, Nat.reduceAdd, Nat.reduceMul, Nat.reduceLeDiff, Nat.reduceEqDiff, Nat.reduceBNe, Nat.ble_eq, UInt8.reduceToNat])
theorem law20_TreeKinds_fe {o_0} {s : Store} {r : Bool}  (h : law20_TreeKinds o_0 = some r) : FE Go.Proofs.Try.prog 5 [.agg [.int .i64 o_0.V.Kind, .int .i64 o_0.V.N, .str o_0.V.S.b, .sl false 4 o_0.V.L.length (flat o_0.V.L), .bool o_0.Stream, .str o_0.Data.b]] s [.bool r] s := law20_TreeKinds_fn   ⟨r, h, rfl, rfl⟩
end Go.AB
end

section
namespace Go.AB
open Go
theorem law20_works_true : law20_works = some true := by kernel_rfl
end Go.AB
end

section
namespace Go.AB
open Go

theorem W_len {v : api_Value} {n : Nat} (h : W n v) : (v.L.length : Int) ≤ n := by
  cases n with
  | zero => exact h.elim
  | succ n => have := h.1; omega

theorem ref19_Few_one (o : api_Object) : ∃ b, ref19_Few [o] 1 = some b ∧ (b = true → W 300 o.V) := by
  obtain ⟨b, h1, h2⟩ := ref14_Few_some o 300
  have hx : ix [o] 0 = o := rfl
  unfold ref19_Few
  rw [if_neg (by simp)]
  cases b with
  | false =>
    rw [iter_eq (o := .inr false) (fun k => k = 0) (fun _ => 0) rfl (by decide) fun k hk => .inr (by
      subst hk
      rw [if_pos (by simp), need_pos (by simp), hx, h1]; rfl)]
    exact ⟨false, rfl, fun h => by cases h⟩
  | true =>
    rw [iter_eq (o := .inl ()) (fun k => k = 0 ∨ k = 1) (fun k => (1 - k).toNat) (.inl rfl) (by decide) fun k hk => by
      rcases hk with rfl | rfl
      · refine .inl ⟨1, ?_, .inr rfl, by decide⟩
        rw [if_pos (by simp), need_pos (by simp), hx, h1]; rfl
      · exact .inr (by rw [if_neg (by simp)])]
    exact ⟨true, rfl, fun _ => h2 rfl⟩

theorem typed_eq (o : api_Object) (name : Str) (h : (o.V.L.length : Int) ≤ 4611686018427387904) : ∃ t, tree_typed o name = some t ∧ ref20_Typed o name = some t := by
  obtain ⟨r, hr⟩ := value_Get_some o.V (Str.mk [84, 121, 112, 101]) h
  unfold tree_typed ref20_Typed
  rw [ref11_Get_eq _ _ h, hr, bnd_some, bnd_some]
  refine ⟨_, rfl, ?_⟩
  cases h2 : r.2 with
  | true => simp
  | false =>
    have := value_Get_no _ _ _ hr h2
    rw [this]; simp

def allRef (l : List api_Value) : Bool := l.all fun x => x.Kind == 8
def nums (l : List api_Value) : List Int := l.map fun x => x.N

theorem Get_W {v : api_Value} {n : Nat} {key : Str} {r : api_Value × Bool} (hw : W (n + 1) v) (h : value_Get v key = some r) : (r.1.L.length : Int) ≤ n := by
  unfold value_Get at h
  cases hf : value_find v key with
  | none => rw [hf] at h; cases h
  | some i =>
    rw [hf, bnd_some] at h
    split at h
    · injection h with h; subst h; simp
    · split at h
      · injection h with h; subst h; simp
      · unfold need at h
        split at h
        · rename_i hb
          injection h with h; subst h
          show ((ix v.L _).L.length : Int) ≤ n
          rw [ix_at (by omega)]
          have := hw.2 _ (List.getElem_mem (l := v.L) (n := (w64 (i + 1)).toNat) (by omega))
          cases n with
          | zero => exact this.elim
          | succ n => have := this.1; omega
        · cases h

/-- The references among the first k. -/
theorem take_succ_nums (l : List api_Value) (k : Nat) (h : k < l.length) : nums (l.take (k + 1)) = nums (l.take k) ++ [(ix l (k : Int)).N] := by
  unfold nums; rw [List.take_add_one, List.map_append, ix_nat h]; simp [h]
theorem take_succ_all (l : List api_Value) (k : Nat) (h : k < l.length) : allRef (l.take (k + 1)) = (allRef (l.take k) && ((ix l (k : Int)).Kind == 8)) := by
  unfold allRef; rw [List.take_add_one, List.all_append, ix_nat h]; simp [h]
theorem all_of_take (l : List api_Value) (k : Nat) (h : k < l.length) (hk : ((ix l (k : Int)).Kind == 8) = false) : allRef l = false := by
  cases ha : allRef l with
  | false => rfl
  | true =>
    have := List.all_eq_true.1 ha _ (List.getElem_mem h)
    rw [ix_nat h] at hk
    rw [hk] at this; cases this

theorem loop_node (l : List api_Value) (n c : Int) (v : api_Value) (h : (l.length : Int) ≤ 300) :
    ∃ o : tree_node ⊕ tree_node × Bool, iter (fun ((x9, t10) : tree_node × Int) =>
          if decide (t10 < (l.length : Int)) then
            need (0 ≤ t10 ∧ t10 < l.length) <|
            if ((ix l t10).Kind) != 8 then
              some (.inr (.inr (x9, false)))
            else
              need ((x9.kids_.length + [(ix l t10).N].length) * 8 ≤ room) <|
              some (.inl ((tree_node.mk x9.n_ x9.v_ (x9.kids_ ++ [(ix l t10).N]) x9.count_), w64 (t10 + 1)))
          else
            some (.inr (.inl x9))) ((tree_node.mk n v ([] : List Int) c), 0) = some o ∧ ((allRef l = true ∧ o = .inl ⟨n, v, nums l, c⟩) ∨ (allRef l = false ∧ ∃ x, o = .inr (x, false))) := by
  refine iter_inv (fun s => ∃ k : Nat, s.2 = (k : Int) ∧ k ≤ l.length ∧ s.1 = ⟨n, v, nums (l.take k), c⟩ ∧ allRef (l.take k) = true) (fun s => ((l.length : Int) - s.2).toNat) _ ⟨0, rfl, Nat.zero_le _, rfl, rfl⟩ (by show ((l.length : Int) - 0).toNat < _; omega) ?_
  rintro ⟨x, t⟩ ⟨k, h1, h2, h3, h4⟩
  simp only at h1 h3
  subst h1 h3
  by_cases hl : k < l.length
  · have e : decide ((k : Int) < (l.length : Int)) = true := by simp; exact hl
    simp only [e, if_true]
    rw [need_pos ⟨by omega, by omega⟩]
    cases hk : ((ix l (k : Int)).Kind == 8) with
    | false =>
      have hk' : ((ix l (k : Int)).Kind != 8) = true := by rw [bne, hk]; rfl
      simp only [hk', if_true]
      exact ⟨_, rfl, .inr ⟨all_of_take l k hl hk, _, rfl⟩⟩
    | true =>
      have hk' : ((ix l (k : Int)).Kind != 8) = false := by rw [bne, hk]; rfl
      have hn : (nums (l.take k)).length = k := by unfold nums; simp; omega
      simp only [hk', Bool.false_eq_true, if_false]
      rw [need_pos (by rw [hn]; unfold room; simp; omega)]
      refine ⟨_, rfl, ?_⟩
      rw [w64_id (by omega) (by omega)]
      exact ⟨⟨k + 1, by show (k : Int) + 1 = _; omega, hl, by rw [take_succ_nums l k hl], by rw [take_succ_all l k hl, h4, hk]; rfl⟩, by show ((l.length : Int) - ((k : Int) + 1)).toNat < ((l.length : Int) - (k : Int)).toNat; omega⟩
  · have e : decide ((k : Int) < (l.length : Int)) = false := by simp; omega
    simp only [e, Bool.false_eq_true, if_false]
    have hk : l.take k = l := List.take_of_length_le (by omega)
    rw [hk] at h4 ⊢
    exact ⟨_, rfl, .inl ⟨h4, rfl⟩⟩

def resN (l : List api_Value) : List Int ⊕ Int × List Int × Bool := if allRef l = true then .inl (nums l) else .inr (0, [], false)
theorem loop_ref (l : List api_Value) (h : (l.length : Int) ≤ 300) :
    ∃ o : List Int ⊕ Int × List Int × Bool, iter (fun ((out9, k10) : (List Int) × Int) =>
          if decide (k10 < (l.length : Int)) then
            need (0 ≤ k10 ∧ k10 < l.length) <|
            if ((ix l k10).Kind) != 8 then
              some (.inr (.inr ((0 : Int), ([] : List Int), false)))
            else
              need (0 ≤ k10 ∧ k10 < l.length) <|
              need ((out9.length + [(ix l k10).N].length) * 8 ≤ room) <|
              some (.inl (out9 ++ [(ix l k10).N], w64 (k10 + 1)))
          else
            some (.inr (.inl out9))) (([] : List Int), 0) = some o ∧ o = resN l := by
    refine iter_inv (fun s => ∃ k : Nat, s.2 = (k : Int) ∧ k ≤ l.length ∧ s.1 = nums (l.take k) ∧ allRef (l.take k) = true) (fun s => ((l.length : Int) - s.2).toNat) _ ⟨0, rfl, Nat.zero_le _, rfl, rfl⟩ (by show ((l.length : Int) - 0).toNat < _; omega) ?_
    rintro ⟨x, t⟩ ⟨k, h1, h2, h3, h4⟩
    simp only at h1 h3
    subst h1 h3
    by_cases hl : k < l.length
    · have e : decide ((k : Int) < (l.length : Int)) = true := by simp; exact hl
      simp only [e, if_true]
      rw [need_pos ⟨by omega, by omega⟩]
      cases hk : ((ix l (k : Int)).Kind == 8) with
      | false =>
        have hk' : ((ix l (k : Int)).Kind != 8) = true := by rw [bne, hk]; rfl
        simp only [hk', if_true]
        exact ⟨_, rfl, by show _ = resN l; unfold resN; rw [all_of_take l k hl hk]; rfl⟩
      | true =>
        have hk' : ((ix l (k : Int)).Kind != 8) = false := by rw [bne, hk]; rfl
        have hn : (nums (l.take k)).length = k := by unfold nums; simp; omega
        simp only [hk', Bool.false_eq_true, if_false]
        rw [need_pos ⟨by omega, by omega⟩, need_pos (by rw [hn]; unfold room; simp; omega)]
        refine ⟨_, rfl, ?_⟩
        rw [w64_id (by omega) (by omega)]
        exact ⟨⟨k + 1, by show (k : Int) + 1 = _; omega, hl, by rw [take_succ_nums l k hl], by rw [take_succ_all l k hl, h4, hk]; rfl⟩, by show ((l.length : Int) - ((k : Int) + 1)).toNat < ((l.length : Int) - (k : Int)).toNat; omega⟩
    · have e : decide ((k : Int) < (l.length : Int)) = false := by simp; omega
      simp only [e, Bool.false_eq_true, if_false]
      have hk : l.take k = l := List.take_of_length_le (by omega)
      rw [hk] at h4 ⊢
      exact ⟨_, rfl, by show _ = resN l; unfold resN; rw [h4]; rfl⟩
end Go.AB
end
